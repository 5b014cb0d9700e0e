/- Plain: what a word may be; a note is one node. With what it rests on. Conditions: as each theorem states them. -/
import Derived.Test.YtddfdmopaeghnadGreatDoorRqTr
import Derived.Test.YtddfdmopaeghnadGreatDoorRqMk
import Derived.Test.YtddfdmopaeghnadGreatDoorRqLx
import Derived.Lib.ItoaNum
import Derived.Lib.FieldsP
import Derived.Lib.TrimU
import Derived.Lib.Join
import Derived.Lib.Strings
import Derived.Laws.RangeString
import Derived.Test.YtddfdmopaeghnadGreatDoorRqCa
import Derived.Deep.RegionHeld3
import Derived.RegionDies
import Derived.Test.YtddfdmopaeghnadGreatDoorRqSy
set_option maxRecDepth 100000
set_option maxHeartbeats 16000000
namespace Go.Proofs.YtddfdmopaeghnadGreatDoor
theorem wordF_facts {w:ByteArray} (h:wordF w=true):w.data.toList≠[]/\w.size<=20/\∀ c ∈ w.data.toList,33<=c.toNat/\c.toNat<=126:=by
 simp only [wordF,Bool.and_eq_true,Bool.not_eq_true',decide_eq_true_eq,ByteArray.toList_eq,List.isEmpty_eq_false_iff] at h
 refine ⟨h.1.1,h.1.2,fun c hc=>?_⟩
 have:=List.all_eq_true.1 h.2 c hc
 simpa [visC] using this
theorem wordsF_facts {l:List ByteArray} (h:wordsF l=0):l.length<=60/\∀ w ∈ l,wordF w=true:=by
 unfold wordsF at h
 split at h
 ·cases h
 ·split at h
  ·rename_i h1 h2
   exact ⟨by omega,fun w hw=>List.all_eq_true.1 h2 w hw⟩
  ·cases h
theorem opAt_of {l:List Nd} {i:Nat} (hi:i<l.length):opAt l i=l[i].op:=by rw [opAt,getD_at hi]
theorem tone_n {op n:Int} {t:ByteArray} (h:treeOne op t n=0) (hm:mostF op<0):n=0:=by
 unfold treeOne at h
 split at h
 ·cases h
 ·split at h
  ·cases h
  ·rename_i hh
   by_cases hn:n=0
   ·exact hn
   ·exact absurd (.inl ⟨hm,hn⟩) hh
theorem tree_pos {u:List Nd} (h:treeF u=0):0<u.length:=by
 have:=(Tr.of_check h).root
 rcases Nat.eq_zero_or_pos u.length with h1|h1
 ·rw [posAt_ge (by omega)] at this;cases this
 ·exact h1
theorem tree_note {u:List Nd} (h:treeF u=0) (h9:opAt u 0=9):∃ x,u=[⟨9,x,0⟩]/\treeOne 9 x 0=0:=by
 have hT:=Tr.of_check h
 have hp:=tree_pos h
 have hk:=hT.kidsP hp
 have hm:(manyL u).getD 0 0=(manyF u[0].op u[0].n).toNat:=manyL_at hp rfl
 have hone:=hT.one _ (List.getElem_mem hp)
 rw [opAt_of hp] at h9
 rw [hm,h9,show (manyF 9 u[0].n).toNat=0 from rfl,KidsP] at hk
 have hend:tEnd u 0=u.length:=by rw [tEnd,hT.root];rfl
 have hl:u.length=1:=by omega
 rw [h9] at hone
 have hn:=tone_n hone (by decide)
 refine ⟨u[0].text, ?_,by rw [hn] at hone;exact hone⟩
 match u,hl with
 | [d],_ =>
  simp only [List.getElem_cons_zero] at h9 hn ⊢
  obtain ⟨op,t,n⟩:=d
  simp only at h9 hn
  subst h9 hn
  rfl
end Go.Proofs.YtddfdmopaeghnadGreatDoor
namespace Go.Proofs.YtddfdmopaeghnadGreatDoor
def alnB (c:UInt8):Bool:=lowB c||digB c
def Lx (ed:Bool) (tk:List (List UInt8)) (s:List UInt8):Prop :=
 ∀ (i:Nat) (r:List UInt8),(ed=true->∀ c r',r=c::r'->alnB c=false)->(lexL i (s++r)).1.map (·.2)=tk++(lexL (i+s.length) r).1.map (·.2)/\(lexL i (s++r)).2=(lexL (i+s.length) r).2
theorem Lx.nil:Lx false [] []:=fun i r _=>⟨by simp,by simp⟩
theorem Lx.open_ {tk:List (List UInt8)} {s:List UInt8} (h:Lx false tk s) (ed:Bool):Lx ed tk s:=fun i r _=>h i r (fun e=>by cases e)
theorem Lx.app {e1 e2:Bool} {t1 t2:List (List UInt8)} {s1 s2:List UInt8} (h1:Lx e1 t1 s1) (h2:Lx e2 t2 s2) (hc:e1=true->∃ c r,s2=c::r/\alnB c=false):Lx e2 (t1++t2) (s1++s2):=by
 intro i r hr
 have a1:=h1 i (s2++r) (by
  intro he c r' e
  obtain ⟨c',r'',e',h⟩:=hc he
  rw [e',List.cons_append] at e
  cases e
  exact h)
 have a2:=h2 (i+s1.length) r hr
 rw [List.append_assoc,a1.1,a1.2,a2.1,a2.2,List.append_assoc,List.length_append,Nat.add_assoc]
 exact ⟨rfl,rfl⟩
theorem Lx.skip {c:UInt8} (h:(c==32||c==10)=true):Lx false [] [c]:=by
 intro i r _
 rw [List.cons_append,List.nil_append,lexL_skip h]
 exact ⟨by simp,by simp⟩
theorem Lx.blanks (n:Nat):Lx false [] (List.replicate n 32):=by
 induction n with
 | zero=>exact Lx.nil
 | succ n ih=>exact (Lx.skip (c:=32) (by decide)).app ih (fun e=>by cases e)
theorem lx_of {ed:Bool} {c:UInt8} {w:List UInt8} (hb:(c==32||c==10)=false) (ht:trimR (c::w)=c::w)
  (hf:∀ r,(ed=true->∀ d r',r=d::r'->alnB d=false)->firstW (c::(w++r))=((c::w).length,true)):Lx ed [c::w] (c::w):=by
 intro i r hr
 have h:=hf r hr
 rw [List.cons_append,lexL_word hb (by rw [h]),h]
 have e1:(c::(w++r)).take (c::w).length=c::w:=by rw [← List.cons_append,List.take_left]
 have e2:(c::(w++r)).drop (c::w).length=r:=by rw [← List.cons_append,List.drop_left]
 simp only [e1,e2,ht]
 exact ⟨rfl,trivial⟩
theorem runB_stopX {p:UInt8->Bool} {r:List UInt8} (hr:∀ c r',r=c::r'->p c=false):∀ {w:List UInt8},(∀ c ∈ w,p c=true)->runB p (w++r)=w.length:=by
 intro w
 induction w with
 | nil =>
  intro _
  cases r with
  | nil=>rfl
  | cons c r'=>rw [List.nil_append,runB,if_neg (by rw [hr c r' rfl];decide)];rfl
 | cons c w ih =>
  intro h
  rw [List.cons_append,runB,if_pos (h c (by simp)),ih (fun d hd=>h d (by simp [hd]))];rfl
theorem aln_no {c:UInt8} (h:alnB c=false):lowB c=false/\digB c=false:=by simpa [alnB] using h
theorem Lx.name {w:List UInt8} (h0:0<w.length) (h8:w.length<=8) (h:∀ c ∈ w,lowB c=true):Lx true [w] w:=by
 cases w with
 | nil=>simp at h0
 | cons c w =>
  have hc:=h c (by simp)
  refine lx_of (low_nb hc).1 (trimR_of fun d hd=>(low_nb (h d hd)).2) (fun r hr=>?_)
  have e:=runB_stopX (p:=lowB) (r:=r) (fun d r' e=>(aln_no (hr rfl d r' e)).1) (w:=c::w) h
  rw [List.cons_append] at e
  rw [firstW_cons,if_pos hc,e,decide_eq_true h8]
theorem Lx.num {w:List UInt8} (h0:0<w.length) (h6:w.length<=6) (h:∀ c ∈ w,digB c=true) (hz:w.length=1∨w.head?≠some 48):Lx true [w] w:=by
 cases w with
 | nil=>simp at h0
 | cons c w =>
  have hc:=h c (by simp)
  refine lx_of (dig_nb hc).1 (trimR_of fun d hd=>(dig_nb (h d hd)).2.1) (fun r hr=>?_)
  have e:=runB_stopX (p:=digB) (r:=r) (fun d r' e=>(aln_no (hr rfl d r' e)).2) (w:=c::w) h
  rw [List.cons_append] at e
  rw [firstW_cons,if_neg (by rw [(dig_nb hc).2.2];decide),if_pos hc,e,decide_eq_true h6]
  rcases hz with hz|hz
  ·rw [decide_eq_true hz];rfl
  ·have:(c==48)=false:=by simpa using hz
   rw [this];simp
theorem sign_facts:∀ n:Fin 256,signs.contains (UInt8.ofNat n.val)=true->lowB (UInt8.ofNat n.val)=false/\digB (UInt8.ofNat n.val)=false/\(UInt8.ofNat n.val==35)=false/\(UInt8.ofNat n.val==32||UInt8.ofNat n.val==10)=false/\blank (UInt8.ofNat n.val)=false:=by decide +kernel
theorem sign_of {c:UInt8} (h:signs.contains c=true):lowB c=false/\digB c=false/\(c==35)=false/\(c==32||c==10)=false/\blank c=false:=by
 have:=sign_facts ⟨c.toNat,UInt8.toNat_lt c⟩
 simp only [UInt8.ofNat_toNat] at this
 exact this h
theorem sign_aln {c:UInt8} (h:signs.contains c=true):alnB c=false:=by
 have:=sign_of h
 simp [alnB,this.1,this.2.1]
theorem Lx.sign {c:UInt8} (h:signs.contains c=true):Lx false [[c]] [c]:=by
 obtain ⟨h1,h2,h3,h4,h5⟩:=sign_of h
 refine lx_of h4 (trimR_of (by simpa using h5)) (fun r hr=>?_)
 rw [firstW_cons,if_neg (by rw [h1];decide),if_neg (by rw [h2];decide),if_neg (by rw [h3];decide),h];rfl
theorem Lx.note {w:List UInt8} (h:∀ c ∈ w,prB c=true) (ht:trimR (35::w)=35::w):Lx false [35::w] (35::w++[10]):=by
 intro i r _
 have hn:∀ c ∈ w,nlB c=true:=fun c hc=>by
  have:=h c hc
  simp only [prB,Bool.and_eq_true,decide_eq_true_eq] at this
  simp only [nlB,Bool.not_eq_true',beq_eq_false_iff_ne]
  rintro rfl
  simp at this
 have e1:runB nlB (35::(w++(10::r)))=(35::w).length:=by
  rw [← List.cons_append]
  refine runB_stopX (fun c r' e=>by cases e;rfl) (fun c hc=>?_)
  rcases List.mem_cons.1 hc with rfl|hc
  ·rfl
  ·exact hn c hc
 have e2:runB prB (35::(w++(10::r)))=(35::w).length:=by
  rw [← List.cons_append]
  refine runB_stopX (fun c r' e=>by cases e;rfl) (fun c hc=>?_)
  rcases List.mem_cons.1 hc with rfl|hc
  ·rfl
  ·exact h c hc
 have hf:firstW (35::(w++(10::r)))=((35::w).length,true):=by
  rw [firstW_cons,if_neg (by decide),if_neg (by decide),if_pos (by decide),e1,e2,decide_eq_true (Nat.le_refl _)]
 have e:35::w++[10]++r=35::(w++(10::r)):=by simp
 rw [e,lexL_word (by decide) (by rw [hf]),hf]
 have g1:(35::(w++(10::r))).take (35::w).length=35::w:=by rw [← List.cons_append,List.take_left]
 have g2:(35::(w++(10::r))).drop (35::w).length=10::r:=by rw [← List.cons_append,List.drop_left]
 simp only [g1,g2,ht,List.map_cons]
 rw [lexL_skip (by decide)]
 simp [Nat.add_assoc]
theorem decDigits_facts:∀ u:Nat,(∀ c ∈ Lib.decDigits u,digB c=true)/\(0<u->(Lib.decDigits u).head?≠some 48)/\(Lib.decDigits u).foldl (fun (n:Int) c=>n*10+((c.toNat:Int)-48)) 0=(u:Int):=by
 intro u
 induction u using Nat.strongRecOn with
 | _ u ih =>
  have hone:∀ d:Fin 10,digB (UInt8.ofNat (48+d.val))=true/\(UInt8.ofNat (48+d.val)).toNat=48+d.val/\(0<d.val->UInt8.ofNat (48+d.val)≠48):=by decide +kernel
  by_cases h:u<10
  ·obtain ⟨a1,a2,a3⟩:=hone ⟨u,h⟩
   rw [Lib.decDigits_one h]
   refine ⟨by simpa using a1,fun h0=>by simpa using a3 h0, ?_⟩
   simp only [List.foldl_cons,List.foldl_nil,a2]
   omega
  ·obtain ⟨b1,b2,b3⟩:=ih (u / 10) (by omega)
   obtain ⟨a1,a2,a3⟩:=hone ⟨u % 10,Nat.mod_lt _ (by omega)⟩
   have e:Lib.decDigits u=Lib.decDigits (u / 10)++[UInt8.ofNat (48+u % 10)]:=by rw [Lib.decDigits,dif_neg h]
   rw [e]
   refine ⟨fun c hc=>?_,fun _=>?_, ?_⟩
   ·rcases List.mem_append.1 hc with hc|hc
    ·exact b1 c hc
    ·rw [List.mem_singleton.1 hc];exact a1
   ·have:=b2 (by omega)
    cases hd:Lib.decDigits (u / 10) with
    | nil=>have:=Lib.decDigits_length (u / 10);rw [hd] at this;have:=Lib.nDigits_pos (u / 10);simp at *;omega
    | cons c r=>rw [hd] at this;simpa using this
   ·rw [List.foldl_append,b3]
    simp only [List.foldl_cons,List.foldl_nil,a2]
    omega
theorem itoa_nat {n:Int} (h0:0<=n):Lib.itoa n=Lib.decDigits n.toNat:=by rw [Lib.itoa,if_neg (by omega)]
theorem Lx.itoa {n:Int} (h0:0<=n) (h:n<=999999):Lx true [Lib.itoa n] (Lib.itoa n):=by
 have hl:=itoa_len6 h0 h
 obtain ⟨a1,a2,a3⟩:=decDigits_facts n.toNat
 rw [itoa_nat h0] at *
 refine Lx.num hl.1 hl.2 a1 ?_
 rcases Nat.eq_zero_or_pos n.toNat with hz|hz
 ·left;rw [hz,Lib.decDigits_one (by omega)];rfl
 ·exact .inr (a2 hz)
def kidK (po ko:Int) (second:Bool) (x:List (List UInt8)):List (List UInt8):=if boundF po ko second=true then [40]::(x++[[41]]) else x
def kidsK (g:Nat->List (List UInt8)) (e:Nat->Nat):Nat->Nat->List (List UInt8)
 | _,0=>[]
 | a,m+1=>if m=0 then g a else g a++[44]::kidsK g e (e a) m
def tokT (l:List Nd):Nat->Nat->List (List UInt8)
 | 0,_=>[]
 | f+1,i =>
  let d:=l.getD i ⟨0,.empty,0⟩
  if d.op=1 then [Lib.itoa d.n]
  else if d.op=2 then [d.text.data.toList]
  else if d.op=3 then d.text.data.toList::[40]::(kidsK (tokT l f) (tEnd l) (i+1) d.n.toNat++[[41]])
  else if d.op=4 then [91]::(kidsK (tokT l f) (tEnd l) (i+1) d.n.toNat++[[93]])
  else if d.op=5 then kidK 5 (opAt l (i+1)) false (tokT l f (i+1))++[43]::kidK 5 (opAt l (tEnd l (i+1))) true (tokT l f (tEnd l (i+1)))
  else if d.op=6 then kidK 6 (opAt l (i+1)) false (tokT l f (i+1))++[42]::kidK 6 (opAt l (tEnd l (i+1))) true (tokT l f (tEnd l (i+1)))
  else if d.op=7 then [108,101,116]::d.text.data.toList::[61]::(tokT l f (i+1)++[[59]])
  else tokT l f (i+1)++[[59]]
def Bg (s:List UInt8):Prop:=∃ c r,s=c::r/\alnB c=false
def Tk (b e:Bool) (tk:List (List UInt8)) (ns:List Nd):Prop :=
 ∃ x:D,x.ok/\x.enc=ns/\(∀ (dp:Int) (w r:List Int) (s:ByteArray),x.lay dp w=.ok (s,r)->Lx e tk s.data.toList/\(b=true->Bg s.data.toList))/\∀ s,x.flat=some s->Lx e tk s.data.toList/\(b=true->Bg s.data.toList)
theorem Tk.word {b e:Bool} {tk:List (List UInt8)} {s:ByteArray} (h:Lx e tk s.data.toList) (hb:b=true->Bg s.data.toList):Tk b e tk (wordN s):=by
 refine ⟨.leaf ⟨1,s,0⟩,rfl,rfl,fun dp w r t ht=>?_,fun t ht=>?_⟩
 ·simp only [D.lay,if_true] at ht
  cases ht;exact ⟨h,hb⟩
 ·simp only [D.flat,if_true] at ht
  cases ht;exact ⟨h,hb⟩
theorem lx_line (n:Nat):Lx false [] ((⟨#[10]⟩++blanksB n:ByteArray).data.toList):=by
 rw [ByteArray.data_append,Array.toList_append]
 exact (Lx.skip (c:=10) (by decide)).app (Lx.blanks n) (fun e=>by cases e)
theorem bg_line (n:Nat):Bg ((⟨#[10]⟩++blanksB n:ByteArray).data.toList):=by
 rw [ByteArray.data_append,Array.toList_append]
 exact ⟨10,_,rfl,by decide⟩
theorem Tk.blank:Tk true false [] (opN 2):=by
 refine ⟨.leaf ⟨2,.empty,0⟩,rfl,rfl,fun dp w r t ht=>?_,fun t ht=>?_⟩
 ·simp only [D.lay,show ¬ (2:Int)=1 by decide,show ¬ (2:Int)=5 by decide,if_false] at ht
  cases ht
  exact ⟨lx_line _,fun _=>bg_line _⟩
 ·simp only [D.flat,show ¬ (2:Int)=1 by decide,if_false,if_true] at ht
  cases ht
  exact ⟨Lx.skip (by decide),fun _=>⟨32,[],rfl,by decide⟩⟩
theorem Tk.soft:Tk false false [] (opN 3):=by
 refine ⟨.leaf ⟨3,.empty,0⟩,rfl,rfl,fun dp w r t ht=>?_,fun t ht=>?_⟩
 ·simp only [D.lay,show ¬ (3:Int)=1 by decide,show ¬ (3:Int)=5 by decide,if_false] at ht
  cases ht
  exact ⟨lx_line _,fun e=>by cases e⟩
 ·simp only [D.flat,show ¬ (3:Int)=1 by decide,show ¬ (3:Int)=2 by decide,if_false] at ht
  cases ht
  exact ⟨Lx.nil,fun e=>by cases e⟩
theorem Bg.app {a:List UInt8} (h:Bg a) (b:List UInt8):Bg (a++b):=by
 obtain ⟨c,r,e,h⟩:=h
 exact ⟨c,r++b,by rw [e];rfl,h⟩
theorem both_lay {a b:D} {dp:Int} {w r:List Int} {t:ByteArray} (h:(D.bin ⟨6,.empty,0⟩ a b).lay dp w=.ok (t,r)):∃ s1 w1 s2,a.lay (dp+0) w=.ok (s1,w1)/\b.lay (dp+0) w1=.ok (s2,r)/\t=s1++s2:=by
 simp only [D.lay,if_true] at h
 cases ha:a.lay (dp+0) w with
 | error e=>rw [ha] at h;cases h
 | ok p =>
  obtain ⟨s1,w1⟩:=p
  rw [ha] at h
  cases hb:b.lay (dp+0) w1 with
  | error e=>simp only [hb] at h;cases h
  | ok q =>
   obtain ⟨s2,w2⟩:=q
   simp only [hb] at h
   cases h
   exact ⟨s1,w1,s2,rfl,hb,rfl⟩
theorem both_flat {a b:D} {t:ByteArray} (h:(D.bin ⟨6,.empty,0⟩ a b).flat=some t):∃ s1 s2,a.flat=some s1/\b.flat=some s2/\t=s1++s2:=by
 simp only [D.flat,if_true] at h
 cases ha:a.flat with
 | none=>rw [ha] at h;cases h
 | some s1 =>
  cases hb:b.flat with
  | none=>rw [ha,hb] at h;cases h
  | some s2=>rw [ha,hb] at h;cases h;exact ⟨s1,s2,rfl,rfl,rfl⟩
theorem Tk.both {b1 b2 e1 e2:Bool} {t1 t2:List (List UInt8)} {m n:List Nd} (h1:Tk b1 e1 t1 m) (h2:Tk b2 e2 t2 n) (hc:e1=true->b2=true):Tk b1 e2 (t1++t2) (bothN m n):=by
 obtain ⟨x,x1,x2,x3,x4⟩:=h1
 obtain ⟨y,y1,y2,y3,y4⟩:=h2
 refine ⟨.bin ⟨6,.empty,0⟩ x y,⟨by decide,x1,y1⟩,by simp [D.enc,bothN,x2,y2],fun dp w r t ht=>?_,fun t ht=>?_⟩
 ·obtain ⟨s1,w1,s2,g1,g2,rfl⟩:=both_lay ht
  obtain ⟨p1,p2⟩:=x3 _ _ _ _ g1
  obtain ⟨q1,q2⟩:=y3 _ _ _ _ g2
  rw [ByteArray.data_append,Array.toList_append]
  exact ⟨p1.app q1 (fun e=>q2 (hc e)),fun e=>(p2 e).app _⟩
 ·obtain ⟨s1,s2,g1,g2,rfl⟩:=both_flat ht
  obtain ⟨p1,p2⟩:=x4 _ g1
  obtain ⟨q1,q2⟩:=y4 _ g2
  rw [ByteArray.data_append,Array.toList_append]
  exact ⟨p1.app q1 (fun e=>q2 (hc e)),fun e=>(p2 e).app _⟩
theorem Tk.softly {e:Bool} {t:List (List UInt8)} {n:List Nd} (h:Tk true e t n):Tk true e t (bothN (opN 3) n):=by
 obtain ⟨y,y1,y2,y3,y4⟩:=h
 refine ⟨.bin ⟨6,.empty,0⟩ (.leaf ⟨3,.empty,0⟩) y,⟨by decide,rfl,y1⟩,by simp [D.enc,bothN,opN,y2],fun dp w r s hs=>?_,fun s hs=>?_⟩
 ·obtain ⟨s1,w1,s2,g1,g2,rfl⟩:=both_lay hs
  simp only [D.lay,show ¬ (3:Int)=1 by decide,show ¬ (3:Int)=5 by decide,if_false] at g1
  cases g1
  obtain ⟨q1,q2⟩:=y3 _ _ _ _ g2
  rw [ByteArray.data_append,Array.toList_append]
  exact ⟨(lx_line _).app q1 (fun e=>by cases e),fun _=>(bg_line _).app _⟩
 ·obtain ⟨s1,s2,g1,g2,rfl⟩:=both_flat hs
  simp only [D.flat,show ¬ (3:Int)=1 by decide,show ¬ (3:Int)=2 by decide,if_false] at g1
  cases g1
  obtain ⟨q1,q2⟩:=y4 _ g2
  rw [ByteArray.data_append,Array.toList_append]
  exact ⟨Lx.nil.app q1 (fun e=>by cases e),fun e=>q2 e⟩
theorem Tk.group {b e:Bool} {t:List (List UInt8)} {n:List Nd} (h:Tk b e t n):Tk b e t (groupN n):=by
 obtain ⟨x,x1,x2,x3,x4⟩:=h
 refine ⟨.un ⟨8,.empty,0⟩ x,⟨by decide,x1⟩,by simp [D.enc,groupN,x2],fun dp w r s hs=>?_,fun s hs=>x4 s hs⟩
 simp only [D.lay,show ¬ (8:Int)=7 by decide,if_false] at hs
 cases w with
 | nil=>cases hs
 | cons c w =>
  simp only at hs
  split at hs
  ·cases hf:x.flat with
   | none=>rw [hf] at hs;cases hs
   | some u=>rw [hf] at hs;cases hs;exact x4 _ hf
  ·exact x3 _ _ _ _ hs
theorem Tk.deep {b e:Bool} {t:List (List UInt8)} {n:List Nd} (h:Tk b e t n):Tk b e t (deepN n):=by
 obtain ⟨x,x1,x2,x3,x4⟩:=h
 refine ⟨.un ⟨7,.empty,2⟩ x,⟨by decide,x1⟩,by simp [D.enc,deepN,x2],fun dp w r s hs=>?_,fun s hs=>x4 s hs⟩
 simp only [D.lay,if_true] at hs
 exact x3 _ _ _ _ hs
theorem Tk.loose {b e:Bool} {t:List (List UInt8)} {n:List Nd} (h:Tk b e t n):Tk false e t n:=by
 obtain ⟨x,x1,x2,x3,x4⟩:=h
 exact ⟨x,x1,x2,fun dp w r s hs=>⟨(x3 _ _ _ _ hs).1,fun e=>by cases e⟩,fun s hs=>⟨(x4 _ hs).1,fun e=>by cases e⟩⟩
theorem Tk.opened {b:Bool} {t:List (List UInt8)} {n:List Nd} (h:Tk b false t n) (e:Bool):Tk b e t n:=by
 obtain ⟨x,x1,x2,x3,x4⟩:=h
 exact ⟨x,x1,x2,fun dp w r s hs=>⟨(x3 _ _ _ _ hs).1.open_ e,(x3 _ _ _ _ hs).2⟩,fun s hs=>⟨(x4 _ hs).1.open_ e,(x4 _ hs).2⟩⟩
theorem Tk.of_eq {b e:Bool} {t t':List (List UInt8)} {n:List Nd} (h:Tk b e t n) (ht:t=t'):Tk b e t' n:=ht▸h
theorem Tk.signw {c:UInt8} (h:signs.contains c=true):Tk true false [[c]] (wordN ⟨#[c]⟩):=Tk.word (Lx.sign h) (fun _=>⟨c,[],rfl,sign_aln h⟩)
theorem Tk.kid {po ko:Int} {b:Bool} {n:List Nd} {t:List (List UInt8)} (h:Tk false true t n):Tk false true (kidK po ko b t) (kidD po ko b n):=by
 unfold kidK kidD
 split
 ·refine ((((Tk.signw (c:=40) (by decide)).both (h.both (Tk.signw (c:=41) (by decide)) (fun _=>rfl)) (fun e=>by cases e)).loose).opened true).of_eq ?_
  simp
 ·exact h
theorem Tk.kids {l:List Nd} {g:Nat->List Nd} {t:Nat->List (List UInt8)}:∀ (m a z:Nat),KidsP l a m z->0<m->(∀ b,a<=b->b<l.length->Tk false true (t b) (g b))->Tk false true (kidsK t (tEnd l) a m) (kidsD g (tEnd l) a m):=by
 intro m
 induction m with
 | zero=>intro a z h h0;omega
 | succ m ih =>
  intro a z h _ hg
  obtain ⟨h1,h2,h3⟩:=h
  have h4:=hg a (Nat.le_refl _) h1
  rw [kidsD,kidsK]
  split
  ·exact h4
  ·have h5:=ih _ _ h3 (by omega) (fun b hb hb2=>hg b (by omega) hb2)
   refine ((h4.both (Tk.signw (c:=44) (by decide)) (fun _=>rfl)).both (Tk.blank.both h5 (fun e=>by cases e)) (fun e=>by cases e)).of_eq ?_
   simp
theorem lx_name {t:ByteArray} (h:nameF t=true):Lx true [t.data.toList] t.data.toList:=by
 obtain ⟨h0,h8,hl⟩:=name_facts h
 have hz:t.data.toList.length=t.size:=by simp
 exact Lx.name (by omega) (by omega) (fun c hc=>List.all_eq_true.1 hl c hc)
theorem Tk.listed {o:ByteArray} {c:UInt8} {m:Nat} {k:List Nd} {t1 t:List (List UInt8)} (ho:Lx false t1 o.data.toList) (hc:signs.contains c=true) (h:0<m->Tk false true t k) (hz:m=0->t=[]):Tk false true (t1++(t++[[c]])) (listD o ⟨#[c]⟩ m k):=by
 unfold listD
 split
 ·rename_i e
  rw [hz e]
  refine (Tk.word (b:=false) ?_ (fun e=>by cases e)).opened true
  rw [ByteArray.data_append,Array.toList_append]
  exact ho.app (Lx.sign hc) (fun e=>by cases e)
 ·have hw:Tk false false t1 (wordN o):=Tk.word ho (fun e=>by cases e)
  refine ((hw.both ((Tk.deep (Tk.soft.both (h (by omega)) (fun e=>by cases e))).both (Tk.softly (Tk.signw hc)) (fun _=>rfl)) (fun e=>by cases e)).group.opened true).of_eq ?_
  simp
theorem rq53 {P:Prop} (h:P:=by
 refine ⟨((q1.kid.both (Tk.deep (Tk.blank.both (hw.both q2.kid (fun e=>by cases e)) (fun e=>by cases e))) (fun _=>rfl)).group).of_eq ?_,fun h=>by omega⟩
 simp):P:=h
theorem rq55 {P:Prop} (h:P:=by
 by_cases hc:l[i].op<1∨9<l[i].op
 ·rw [treeOne,if_pos (by rcases hc with h|h;exact .inl h;exact .inr (.inl h))] at hone;cases hone
 ·omega):P:=h
theorem docT_tok {l:List Nd} (hT:Tr l):∀ f i:Nat,l.length<=i+f->(hi:i<l.length)->l[i].op≠9->Tk false true (tokT l f i) (docT l f i)/\(7<=l[i].op->Tk false false (tokT l f i) (docT l f i)):=by
 intro f
 induction f with
 | zero=>intro i h1 h2;omega
 | succ f ih =>
  intro i h1 h2 h9
  have hk:=hT.kidsP h2
  have hm:(manyL l).getD i 0=(manyF l[i].op l[i].n).toNat:=manyL_at h2 rfl
  have hone:=hT.one _ (List.getElem_mem h2)
  have hop:1<=l[i].op/\l[i].op<=9:=by
   exact rq55
  rw [hm] at hk
  have ihk:∀ b,i+1<=b->b<l.length->Tk false true (tokT l f b) (docT l f b):=fun b hb hl=>(ih b (by omega) hl (by have:=hT.low hl (by omega);omega)).1
  rw [docT,tokT,getD_at h2]
  generalize l[i].op=op at *
  generalize l[i].n=n at *
  generalize l[i].text=t at *
  have hcs:op=1∨op=2∨op=3∨op=4∨op=5∨op=6∨op=7∨op=8:=by omega
  rcases hcs with rfl|rfl|rfl|rfl|rfl|rfl|rfl|rfl
  ·obtain ⟨n0,n1⟩:=tone_num hone
   simp only [if_true]
   exact ⟨Tk.word (by simpa using Lx.itoa n0 n1) (fun e=>by cases e),fun h=>by omega⟩
  ·have hnm:=tone_word hone rfl (by decide)
   simp only [show ¬ (2:Int)=1 by decide,if_false,if_true]
   exact ⟨Tk.word (lx_name hnm) (fun e=>by cases e),fun h=>by omega⟩
  ·have hnm:=tone_word hone rfl (by decide)
   rw [show manyF 3 n=n from rfl] at hk
   simp only [show ¬ (3:Int)=1 by decide,show ¬ (3:Int)=2 by decide,if_false,if_true]
   refine ⟨Tk.listed (t1:=[t.data.toList,[40]]) ?_ (by decide) (fun h0=>Tk.kids _ _ _ hk h0 ihk) (fun h0=>by rw [h0];rfl),fun h=>by omega⟩
   rw [ByteArray.data_append,Array.toList_append]
   exact (lx_name hnm).app (Lx.sign (c:=40) (by decide)) (fun _=>⟨40,[],rfl,by decide⟩)
  ·rw [show manyF 4 n=n from rfl] at hk
   simp only [show ¬ (4:Int)=1 by decide,show ¬ (4:Int)=2 by decide,show ¬ (4:Int)=3 by decide,if_false,if_true]
   exact ⟨Tk.listed (t1:=[[91]]) (Lx.sign (c:=91) (by decide)) (by decide) (fun h0=>Tk.kids _ _ _ hk h0 ihk) (fun h0=>by rw [h0];rfl),fun h=>by omega⟩
  ·obtain ⟨a1,a2,b1,b2,b3⟩:i+1<l.length/\i+1<tEnd l (i+1)/\tEnd l (i+1)<l.length/\tEnd l (i+1)<tEnd l (tEnd l (i+1))/\tEnd l (tEnd l (i+1))=tEnd l i:=⟨hk.1,hk.2.1,hk.2.2.1,hk.2.2.2.1,hk.2.2.2.2⟩
   have q1:=ihk _ (Nat.le_refl _) a1
   have q2:=ihk _ (by omega) b1
   simp only [show ¬ (5:Int)=1 by decide,show ¬ (5:Int)=2 by decide,show ¬ (5:Int)=3 by decide,show ¬ (5:Int)=4 by decide,if_false,if_true]
   have hw:Tk false false [[43]] (wordN ⟨#[43,32]⟩):=Tk.word ((Lx.sign (c:=43) (by decide)).app (Lx.skip (c:=32) (by decide)) (fun e=>by cases e)) (fun e=>by cases e)
   exact rq53
  ·obtain ⟨a1,a2,b1,b2,b3⟩:i+1<l.length/\i+1<tEnd l (i+1)/\tEnd l (i+1)<l.length/\tEnd l (i+1)<tEnd l (tEnd l (i+1))/\tEnd l (tEnd l (i+1))=tEnd l i:=⟨hk.1,hk.2.1,hk.2.2.1,hk.2.2.2.1,hk.2.2.2.2⟩
   have q1:=ihk _ (Nat.le_refl _) a1
   have q2:=ihk _ (by omega) b1
   simp only [show ¬ (6:Int)=1 by decide,show ¬ (6:Int)=2 by decide,show ¬ (6:Int)=3 by decide,show ¬ (6:Int)=4 by decide,show ¬ (6:Int)=5 by decide,if_false,if_true]
   have hw:Tk false false [[42]] (wordN ⟨#[42,32]⟩):=Tk.word ((Lx.sign (c:=42) (by decide)).app (Lx.skip (c:=32) (by decide)) (fun e=>by cases e)) (fun e=>by cases e)
   exact rq53
  ·have hnm:=tone_word hone rfl (by decide)
   obtain ⟨a1,a2,b3⟩:i+1<l.length/\i+1<tEnd l (i+1)/\tEnd l (i+1)=tEnd l i:=⟨hk.1,hk.2.1,hk.2.2⟩
   have q1:=ihk _ (Nat.le_refl _) a1
   simp only [show ¬ (7:Int)=1 by decide,show ¬ (7:Int)=2 by decide,show ¬ (7:Int)=3 by decide,show ¬ (7:Int)=4 by decide,show ¬ (7:Int)=5 by decide,show ¬ (7:Int)=6 by decide,if_false,if_true]
   have hw:Tk false false [[108,101,116],t.data.toList,[61]] (wordN (⟨#[108,101,116,32]⟩++t++⟨#[32,61]⟩)):=by
    refine Tk.word ?_ (fun e=>by cases e)
    rw [ByteArray.data_append,ByteArray.data_append,Array.toList_append,Array.toList_append]
    have g1:Lx false [[108,101,116]] [108,101,116,32]:=(Lx.name (w:=[108,101,116]) (by decide) (by decide) (by decide)).app (Lx.skip (c:=32) (by decide)) (fun _=>⟨32,[],rfl,by decide⟩)
    have g2:Lx false [[61]] [32,61]:=(Lx.skip (c:=32) (by decide)).app (Lx.sign (c:=61) (by decide)) (fun e=>by cases e)
    exact ((g1.app (lx_name hnm) (fun e=>by cases e)).app g2 (fun _=>⟨32,[61],rfl,by decide⟩))
   have hh:=(hw.both (Tk.deep (Tk.blank.both (q1.both (Tk.signw (c:=59) (by decide)) (fun _=>rfl)) (fun e=>by cases e))) (fun e=>by cases e)).group
   refine ⟨(hh.opened true).of_eq ?_,fun _=>hh.of_eq ?_⟩ <;> simp
  ·obtain ⟨a1,a2,b3⟩:i+1<l.length/\i+1<tEnd l (i+1)/\tEnd l (i+1)=tEnd l i:=⟨hk.1,hk.2.1,hk.2.2⟩
   have q1:=ihk _ (Nat.le_refl _) a1
   simp only [show ¬ (8:Int)=1 by decide,show ¬ (8:Int)=2 by decide,show ¬ (8:Int)=3 by decide,show ¬ (8:Int)=4 by decide,show ¬ (8:Int)=5 by decide,show ¬ (8:Int)=6 by decide,show ¬ (8:Int)=7 by decide,if_false]
   have hh:=q1.both (Tk.signw (c:=59) (by decide)) (fun _=>rfl)
   exact ⟨hh.opened true,fun _=>hh⟩
end Go.Proofs.YtddfdmopaeghnadGreatDoor
namespace Go.Proofs.YtddfdmopaeghnadGreatDoor
def wdAt (ws:List ByteArray) (k:Nat):ByteArray:=ws.getD k .empty
def isW (ws:List ByteArray) (k:Nat) (c:List UInt8):Bool:=(wdAt ws k).toList==c
def digC (c:UInt8):Bool:=decide (48<=c.toNat)&&decide (c.toNat<=57)
def digW (s:ByteArray):Bool:=match s.data.toList with
 | []=>false
 | c::_=>digC c
def numW (s:ByteArray):Int:=s.data.toList.foldl (fun n c=>n*10+((c.toNat:Int)-48)) 0
abbrev PrR:=Except Nat (List Nd × Nat)
def chainP (ws:List ByteArray) (op:Int) (sg:List UInt8) (part:Nat->PrR):Nat->List Nd->Nat->PrR
 | 0,out,k=>.ok (out,k)
 | f+1,out,k=>if isW ws k sg=true then
   match part (k+1) with
   | .error e=>.error e
   | .ok (x,k')=>chainP ws op sg part f (⟨op,.empty,0⟩::(out++x)) k'
  else .ok (out,k)
def chainS (ws:List ByteArray) (op:Int) (sg:List UInt8) (part:Nat->PrR) (k:Nat):PrR :=
 match part k with
 | .error e=>.error e
 | .ok (x,k')=>chainP ws op sg part ws.length x k'
def manyP (ws:List ByteArray) (ed:List UInt8) (sum:Nat->PrR):Nat->Nat->List Nd->Nat->Except Nat (Nat × List Nd × Nat)
 | 0,n,out,k=>.ok (n,out,k)
 | f+1,n,out,k=>if isW ws k ed=true then .ok (n,out,k+1)
  else if 0<n/\isW ws k [44]=false then .error k
  else match sum (if 0<n then k+1 else k) with
   | .error e=>.error e
   | .ok (x,k')=>manyP ws ed sum f (n+1) (out++x) k'
def pE (ws:List ByteArray):Nat->Nat->Nat->PrR
 | 0,_,k=>.error k
 | f+1,lv,k =>
  if lv=0 then chainS ws 5 [43] (pE ws f 1) k
  else if lv=1 then chainS ws 6 [42] (pE ws f 2) k
  else if isW ws k [40]=true then
   match pE ws f 0 (k+1) with
   | .error e=>.error e
   | .ok (x,k')=>if isW ws k' [41]=true then .ok (x,k'+1) else .error k'
  else if isW ws k [91]=true then
   match manyP ws [93] (pE ws f 0) (ws.length+1) 0 [] (k+1) with
   | .error e=>.error e
   | .ok (n,x,k')=>.ok (⟨4,.empty,(n:Nat)⟩::x,k')
  else if digW (wdAt ws k)=true then .ok ([⟨1,.empty,numW (wdAt ws k)⟩],k+1)
  else if nameF (wdAt ws k)=false then .error k
  else if isW ws (k+1) [40]=true then
   match manyP ws [41] (pE ws f 0) (ws.length+1) 0 [] (k+2) with
   | .error e=>.error e
   | .ok (n,x,k')=>.ok (⟨3,wdAt ws k,(n:Nat)⟩::x,k')
  else .ok ([⟨2,wdAt ws k,0⟩],k+1)
theorem wdAt_lt {ws:List ByteArray} {k:Nat} (h:(wdAt ws k).toList≠[]):k<ws.length:=by
 rcases Nat.lt_or_ge k ws.length with h1|h1
 ·exact h1
 ·refine absurd ?_ h
  unfold wdAt
  rw [List.getD_eq_getElem?_getD,List.getElem?_eq_none h1]
  decide +kernel
theorem isW_lt {ws:List ByteArray} {k:Nat} {c:UInt8} {r:List UInt8} (h:isW ws k (c::r)=true):k<ws.length:=by
 refine wdAt_lt (fun e=>?_)
 unfold isW at h
 rw [e] at h;cases h
theorem digW_lt {ws:List ByteArray} {k:Nat} (h:digW (wdAt ws k)=true):k<ws.length:=by
 refine wdAt_lt (fun e=>?_)
 rw [ByteArray.toList_eq] at e
 unfold digW at h
 rw [e] at h;cases h
theorem nameW_lt {ws:List ByteArray} {k:Nat} (h:nameF (wdAt ws k)=true):k<ws.length:=by
 refine wdAt_lt (fun e=>?_)
 simp [nameF,e] at h
def Goes (ws:List ByteArray) (part:Nat->PrR):Prop:=∀ k,k<=ws.length->(∀ x k',part k=.ok (x,k')->k<k'/\k'<=ws.length/\x.length+k<=k'/\0<x.length)/\∀ e,part k=.error e->e<=ws.length
theorem chainP_goes {ws:List ByteArray} {op:Int} {sg:List UInt8} {part:Nat->PrR} (hs:sg≠[]) (h:Goes ws part):∀ (f:Nat) (out:List Nd) (k k0:Nat),k<=ws.length->out.length+k0<=k ->
  (∀ x k',chainP ws op sg part f out k=.ok (x,k')->k<=k'/\k'<=ws.length/\x.length+k0<=k'/\out.length<=x.length)/\∀ e,chainP ws op sg part f out k=.error e->e<=ws.length:=by
 intro f
 induction f with
 | zero =>
  intro out k k0 hk ho
  rw [chainP]
  exact ⟨fun x k' e=>by cases e;exact ⟨Nat.le_refl _,hk,ho,Nat.le_refl _⟩,fun e he=>by cases he⟩
 | succ f ih =>
  intro out k k0 hk ho
  rw [chainP]
  by_cases hw:isW ws k sg=true
  ·rw [if_pos hw]
   have hlt:k<ws.length:=by
    cases sg with
    | nil=>exact absurd rfl hs
    | cons c r=>exact isW_lt hw
   obtain ⟨h1,h2⟩:=h (k+1) (by omega)
   cases hp:part (k+1) with
   | error e =>
    simp only
    exact ⟨fun x k' e=>(by cases e),fun e' he=>by cases he;exact h2 _ hp⟩
   | ok r =>
    obtain ⟨x,k'⟩:=r
    obtain ⟨g1,g2,g3,g4⟩:=h1 x k' hp
    simp only
    obtain ⟨i1,i2⟩:=ih (⟨op,.empty,0⟩::(out++x)) k' k0 g2 (by simp;omega)
    refine ⟨fun y j hy=>?_,i2⟩
    obtain ⟨a1,a2,a3,a4⟩:=i1 y j hy
    simp at a4
    exact ⟨by omega,a2,a3,by omega⟩
  ·rw [if_neg hw]
   exact ⟨fun x k' e=>by cases e;exact ⟨Nat.le_refl _,hk,ho,Nat.le_refl _⟩,fun e he=>by cases he⟩
theorem chainS_goes {ws:List ByteArray} {op:Int} {sg:List UInt8} {part:Nat->PrR} (hs:sg≠[]) (h:Goes ws part):Goes ws (chainS ws op sg part):=by
 intro k hk
 obtain ⟨h1,h2⟩:=h k hk
 unfold chainS
 cases hp:part k with
 | error e=>simp only;exact ⟨fun x k' e=>(by cases e),fun e' he=>by cases he;exact h2 _ hp⟩
 | ok r =>
  obtain ⟨x,k'⟩:=r
  obtain ⟨g1,g2,g3,g4⟩:=h1 x k' hp
  simp only
  obtain ⟨i1,i2⟩:=chainP_goes (op:=op) hs h ws.length x k' k g2 g3
  refine ⟨fun y j hy=>?_,i2⟩
  obtain ⟨a1,a2,a3,a4⟩:=i1 y j hy
  exact ⟨by omega,a2,a3,by omega⟩
theorem manyP_goes {ws:List ByteArray} {ed:List UInt8} {sum:Nat->PrR} (hs:ed≠[]) (h:Goes ws sum):∀ (f n:Nat) (out:List Nd) (k k0:Nat),k<=ws.length->out.length+k0<=k->n<=out.length ->
  (∀ m x k',manyP ws ed sum f n out k=.ok (m,x,k')->k<=k'/\k'<=ws.length/\x.length+k0<=k'/\m<=x.length)/\∀ e,manyP ws ed sum f n out k=.error e->e<=ws.length:=by
 intro f
 induction f with
 | zero =>
  intro n out k k0 hk ho hn
  rw [manyP]
  exact ⟨fun m x k' e=>by cases e;exact ⟨Nat.le_refl _,hk,ho,hn⟩,fun e he=>by cases he⟩
 | succ f ih =>
  intro n out k k0 hk ho hn
  rw [manyP]
  by_cases hw:isW ws k ed=true
  ·rw [if_pos hw]
   have hlt:k<ws.length:=by
    cases ed with
    | nil=>exact absurd rfl hs
    | cons c r=>exact isW_lt hw
   exact ⟨fun m x k' e=>by cases e;exact ⟨by omega,by omega,by omega,hn⟩,fun e he=>by cases he⟩
  ·rw [if_neg hw]
   by_cases hc:0<n/\isW ws k [44]=false
   ·rw [if_pos hc]
    exact ⟨fun m x k' e=>(by cases e),fun e' he=>by cases he;exact hk⟩
   ·rw [if_neg hc]
    have hk1:(if 0<n then k+1 else k)<=ws.length:=by
     split
     ·rename_i h0
      have:isW ws k [44]=true:=by
       cases hh:isW ws k [44] with
       | true=>rfl
       | false=>exact absurd ⟨h0,hh⟩ hc
      exact isW_lt this
     ·exact hk
    have hk2:k<=(if 0<n then k+1 else k):=by split <;> omega
    obtain ⟨h1,h2⟩:=h _ hk1
    cases hp:sum (if 0<n then k+1 else k) with
    | error e=>simp only;exact ⟨fun m x k' e=>(by cases e),fun e' he=>by cases he;exact h2 _ hp⟩
    | ok r =>
     obtain ⟨x,k'⟩:=r
     obtain ⟨g1,g2,g3,g4⟩:=h1 x k' hp
     simp only
     obtain ⟨i1,i2⟩:=ih (n+1) (out++x) k' k0 g2 (by simp;omega) (by simp;omega)
     refine ⟨fun m y j hy=>?_,i2⟩
     obtain ⟨a1,a2,a3,a4⟩:=i1 m y j hy
     exact ⟨by omega,a2,a3,a4⟩
theorem rq49 {P:Prop} (h:P:=by
 exact ⟨fun y j e=>by cases e;exact ⟨by omega,by omega,by simp;omega,by simp⟩,fun e he=>by cases he⟩):P:=h
theorem rq50 {P:Prop} (h:P:=by
 obtain ⟨n,x,k'⟩:=r
 obtain ⟨a1,a2,a3,a4⟩:=g1 n x k' hp
 simp only
 exact ⟨fun y j e=>by cases e;exact ⟨by omega,a2,by simp;omega,by simp⟩,fun e he=>by cases he⟩):P:=h
theorem pE_goes (ws:List ByteArray):∀ (f lv:Nat),Goes ws (pE ws f lv):=by
 intro f
 induction f with
 | zero =>
  intro lv k hk
  rw [pE]
  exact ⟨fun x k' e=>(by cases e),fun e he=>by cases he;exact hk⟩
 | succ f ih =>
  intro lv
  by_cases h0:lv=0
  ·have:pE ws (f+1) lv=chainS ws 5 [43] (pE ws f 1):=by funext k;rw [pE,if_pos h0]
   rw [this];exact chainS_goes (by simp) (ih 1)
  ·by_cases h1:lv=1
   ·have:pE ws (f+1) lv=chainS ws 6 [42] (pE ws f 2):=by funext k;rw [pE,if_neg h0,if_pos h1]
    rw [this];exact chainS_goes (by simp) (ih 2)
   ·intro k hk
    rw [pE,if_neg h0,if_neg h1]
    by_cases w40:isW ws k [40]=true
    ·rw [if_pos w40]
     have hlt:=isW_lt w40
     obtain ⟨g1,g2⟩:=ih 0 (k+1) hlt
     cases hp:pE ws f 0 (k+1) with
     | error e=>simp only;exact ⟨fun x k' e=>(by cases e),fun e' he=>by cases he;exact g2 _ hp⟩
     | ok r =>
      obtain ⟨x,k'⟩:=r
      obtain ⟨a1,a2,a3,a4⟩:=g1 x k' hp
      simp only
      by_cases w41:isW ws k' [41]=true
      ·rw [if_pos w41]
       have:=isW_lt w41
       exact ⟨fun y j e=>by cases e;exact ⟨by omega,by omega,by omega,a4⟩,fun e he=>by cases he⟩
      ·rw [if_neg w41]
       exact ⟨fun y j e=>(by cases e),fun e' he=>by cases he;exact a2⟩
    ·rw [if_neg w40]
     by_cases w91:isW ws k [91]=true
     ·rw [if_pos w91]
      have hlt:=isW_lt w91
      obtain ⟨g1,g2⟩:=manyP_goes (ed:=[93]) (by simp) (ih 0) (ws.length+1) 0 [] (k+1) (k+1) hlt (by simp) (by simp)
      cases hp:manyP ws [93] (pE ws f 0) (ws.length+1) 0 [] (k+1) with
      | error e=>simp only;exact ⟨fun x k' e=>(by cases e),fun e' he=>by cases he;exact g2 _ hp⟩
      | ok r =>
       exact rq50
     ·rw [if_neg w91]
      by_cases hd:digW (wdAt ws k)=true
      ·rw [if_pos hd]
       have hlt:=digW_lt hd
       exact rq49
      ·rw [if_neg hd]
       by_cases hn:nameF (wdAt ws k)=false
       ·rw [if_pos hn]
        exact ⟨fun y j e=>(by cases e),fun e' he=>by cases he;exact hk⟩
       ·rw [if_neg hn]
        have hlt:=nameW_lt (ws:=ws) (k:=k) (by simpa using hn)
        by_cases w2:isW ws (k+1) [40]=true
        ·rw [if_pos w2]
         have hlt2:=isW_lt w2
         obtain ⟨g1,g2⟩:=manyP_goes (ed:=[41]) (by simp) (ih 0) (ws.length+1) 0 [] (k+2) (k+2) hlt2 (by simp) (by simp)
         cases hp:manyP ws [41] (pE ws f 0) (ws.length+1) 0 [] (k+2) with
         | error e=>simp only;exact ⟨fun x k' e=>(by cases e),fun e' he=>by cases he;exact g2 _ hp⟩
         | ok r =>
          exact rq50
        ·rw [if_neg w2]
         exact rq49
end Go.Proofs.YtddfdmopaeghnadGreatDoor
namespace Go.Proofs.YtddfdmopaeghnadGreatDoor
def oneP (ws:List ByteArray) (sum:Nat->PrR) (k:Nat):PrR :=
 if isW ws k [40]=true then
  match sum (k+1) with
  | .error e=>.error e
  | .ok (x,k')=>if isW ws k' [41]=true then .ok (x,k'+1) else .error k'
 else if isW ws k [91]=true then
  match manyP ws [93] sum (ws.length+1) 0 [] (k+1) with
  | .error e=>.error e
  | .ok (n,x,k')=>.ok (⟨4,.empty,(n:Nat)⟩::x,k')
 else if digW (wdAt ws k)=true then .ok ([⟨1,.empty,numW (wdAt ws k)⟩],k+1)
 else if nameF (wdAt ws k)=false then .error k
 else if isW ws (k+1) [40]=true then
  match manyP ws [41] sum (ws.length+1) 0 [] (k+2) with
  | .error e=>.error e
  | .ok (n,x,k')=>.ok (⟨3,wdAt ws k,(n:Nat)⟩::x,k')
 else .ok ([⟨2,wdAt ws k,0⟩],k+1)
theorem pE_two (ws:List ByteArray) (f:Nat):pE ws (f+1) 2=oneP ws (pE ws f 0):=by
 funext k
 rw [pE,if_neg (by decide),if_neg (by decide)]
 rfl
theorem pE_one (ws:List ByteArray) (f:Nat):pE ws (f+1) 1=chainS ws 6 [42] (pE ws f 2):=by
 funext k
 rw [pE,if_neg (by decide),if_pos rfl]
theorem pE_zero (ws:List ByteArray) (f:Nat):pE ws (f+1) 0=chainS ws 5 [43] (pE ws f 1):=by
 funext k
 rw [pE,if_pos rfl]
theorem oneP_1b {ws:List ByteArray} {sum:Nat->PrR} {k x:Nat} (h:isW ws k [40]=true) (hs:sum (k+1)=.error x):oneP ws sum k=.error x:=by rw [oneP,if_pos h,hs]
theorem oneP_1c {ws:List ByteArray} {sum:Nat->PrR} {k k':Nat} {x:List Nd} (h:isW ws k [40]=true) (hs:sum (k+1)=.ok (x,k')) (h2:isW ws k' [41]=false):oneP ws sum k=.error k':=by
 rw [oneP,if_pos h,hs]
 simp only
 rw [if_neg (by rw [h2];decide)]
theorem oneP_1g {ws:List ByteArray} {sum:Nat->PrR} {k k':Nat} {x:List Nd} (h:isW ws k [40]=true) (hs:sum (k+1)=.ok (x,k')) (h2:isW ws k' [41]=true):oneP ws sum k=.ok (x,k'+1):=by
 rw [oneP,if_pos h,hs]
 simp only
 rw [if_pos h2]
theorem oneP_2b {ws:List ByteArray} {sum:Nat->PrR} {k x:Nat} (h:isW ws k [40]=false) (h1:isW ws k [91]=true) (hs:manyP ws [93] sum (ws.length+1) 0 [] (k+1)=.error x):oneP ws sum k=.error x:=by rw [oneP,if_neg (by rw [h];decide),if_pos h1,hs]
theorem oneP_2g {ws:List ByteArray} {sum:Nat->PrR} {k k' n:Nat} {x:List Nd} (h:isW ws k [40]=false) (h1:isW ws k [91]=true) (hs:manyP ws [93] sum (ws.length+1) 0 [] (k+1)=.ok (n,x,k')):oneP ws sum k=.ok (⟨4,.empty,(n:Nat)⟩::x,k'):=by rw [oneP,if_neg (by rw [h];decide),if_pos h1,hs]
theorem oneP_3 {ws:List ByteArray} {sum:Nat->PrR} {k:Nat} (h:isW ws k [40]=false) (h1:isW ws k [91]=false) (hd:digW (wdAt ws k)=true):oneP ws sum k=.ok ([⟨1,.empty,numW (wdAt ws k)⟩],k+1):=by
 rw [oneP,if_neg (by rw [h];decide),if_neg (by rw [h1];decide),if_pos hd]
theorem oneP_4 {ws:List ByteArray} {sum:Nat->PrR} {k:Nat} (h:isW ws k [40]=false) (h1:isW ws k [91]=false) (hd:digW (wdAt ws k)=false) (hn:nameF (wdAt ws k)=false):oneP ws sum k=.error k:=by
 rw [oneP,if_neg (by rw [h];decide),if_neg (by rw [h1];decide),if_neg (by rw [hd];decide),if_pos hn]
theorem oneP_5 {ws:List ByteArray} {sum:Nat->PrR} {k:Nat} (h:isW ws k [40]=false) (h1:isW ws k [91]=false) (hd:digW (wdAt ws k)=false) (hn:nameF (wdAt ws k)=true) (h2:isW ws (k+1) [40]=false):oneP ws sum k=.ok ([⟨2,wdAt ws k,0⟩],k+1):=by
 rw [oneP,if_neg (by rw [h];decide),if_neg (by rw [h1];decide),if_neg (by rw [hd];decide),if_neg (by rw [hn];decide),if_neg (by rw [h2];decide)]
theorem rq56 {P:Prop} (h:P:=by
 rw [oneP,if_neg (by rw [h];decide),if_neg (by rw [h1];decide),if_neg (by rw [hd];decide),if_neg (by rw [hn];decide),if_pos h2,hs]):P:=h
theorem oneP_6b {ws:List ByteArray} {sum:Nat->PrR} {k x:Nat} (h:isW ws k [40]=false) (h1:isW ws k [91]=false) (hd:digW (wdAt ws k)=false) (hn:nameF (wdAt ws k)=true) (h2:isW ws (k+1) [40]=true) (hs:manyP ws [41] sum (ws.length+1) 0 [] (k+2)=.error x):oneP ws sum k=.error x:=by
 exact rq56
theorem oneP_6g {ws:List ByteArray} {sum:Nat->PrR} {k k' n:Nat} {x:List Nd} (h:isW ws k [40]=false) (h1:isW ws k [91]=false) (hd:digW (wdAt ws k)=false) (hn:nameF (wdAt ws k)=true) (h2:isW ws (k+1) [40]=true) (hs:manyP ws [41] sum (ws.length+1) 0 [] (k+2)=.ok (n,x,k')):oneP ws sum k=.ok (⟨3,wdAt ws k,(n:Nat)⟩::x,k'):=by
 exact rq56
end Go.Proofs.YtddfdmopaeghnadGreatDoor
namespace Go.Proofs.YtddfdmopaeghnadGreatDoor
def DgW (ws:List ByteArray):Prop:=∀ j,digW (wdAt ws j)=true->(wdAt ws j).data.toList.all digC=true/\(wdAt ws j).size<=6
def pX (ws:List ByteArray):Nat->PrR:=pE ws (3*ws.length+3) 0
theorem pX_goes (ws:List ByteArray):Goes ws (pX ws):=pE_goes ws _ 0
def stmtP (ws:List ByteArray) (k:Nat):PrR :=
 if isW ws k [108,101,116]=true then
  if nameF (wdAt ws (k+1))=false then .error (k+1)
  else if isW ws (k+2) [61]=false then .error (k+2)
  else match pX ws (k+3) with
   | .error e=>.error e
   | .ok (x,k')=>if isW ws k' [59]=true then .ok (⟨7,wdAt ws (k+1),0⟩::x,k'+1) else .error k'
 else match pX ws k with
  | .error e=>.error e
  | .ok (x,k')=>if isW ws k' [59]=true then .ok (⟨8,.empty,0⟩::x,k'+1) else .error k'
theorem stmt0b {ws:List ByteArray} {k x:Nat} (h:isW ws k [108,101,116]=false) (hp:pX ws k=.error x):stmtP ws k=.error x:=by rw [stmtP,if_neg (by rw [h];decide),hp]
theorem stmt0c {ws:List ByteArray} {k k2:Nat} {x:List Nd} (h:isW ws k [108,101,116]=false) (hp:pX ws k=.ok (x,k2)) (h2:isW ws k2 [59]=false):stmtP ws k=.error k2:=by
 rw [stmtP,if_neg (by rw [h];decide),hp]
 simp only
 rw [if_neg (by rw [h2];decide)]
theorem stmt0g {ws:List ByteArray} {k k2:Nat} {x:List Nd} (h:isW ws k [108,101,116]=false) (hp:pX ws k=.ok (x,k2)) (h2:isW ws k2 [59]=true):stmtP ws k=.ok (⟨8,.empty,0⟩::x,k2+1):=by
 rw [stmtP,if_neg (by rw [h];decide),hp]
 simp only
 rw [if_pos h2]
theorem stmt1n {ws:List ByteArray} {k:Nat} (h:isW ws k [108,101,116]=true) (h1:nameF (wdAt ws (k+1))=false):stmtP ws k=.error (k+1):=by rw [stmtP,if_pos h,if_pos h1]
theorem stmt1m {ws:List ByteArray} {k:Nat} (h:isW ws k [108,101,116]=true) (h1:nameF (wdAt ws (k+1))=true) (h2:isW ws (k+2) [61]=false):stmtP ws k=.error (k+2):=by rw [stmtP,if_pos h,if_neg (by rw [h1];decide),if_pos h2]
theorem stmt1b {ws:List ByteArray} {k x:Nat} (h:isW ws k [108,101,116]=true) (h1:nameF (wdAt ws (k+1))=true) (h2:isW ws (k+2) [61]=true) (hp:pX ws (k+3)=.error x):stmtP ws k=.error x:=by rw [stmtP,if_pos h,if_neg (by rw [h1];decide),if_neg (by rw [h2];decide),hp]
theorem stmt1c {ws:List ByteArray} {k k2:Nat} {x:List Nd} (h:isW ws k [108,101,116]=true) (h1:nameF (wdAt ws (k+1))=true) (h2:isW ws (k+2) [61]=true) (hp:pX ws (k+3)=.ok (x,k2)) (h3:isW ws k2 [59]=false):stmtP ws k=.error k2:=by
 rw [stmtP,if_pos h,if_neg (by rw [h1];decide),if_neg (by rw [h2];decide),hp]
 simp only
 rw [if_neg (by rw [h3];decide)]
theorem stmt1g {ws:List ByteArray} {k k2:Nat} {x:List Nd} (h:isW ws k [108,101,116]=true) (h1:nameF (wdAt ws (k+1))=true) (h2:isW ws (k+2) [61]=true) (hp:pX ws (k+3)=.ok (x,k2)) (h3:isW ws k2 [59]=true):stmtP ws k=.ok (⟨7,wdAt ws (k+1),0⟩::x,k2+1):=by
 rw [stmtP,if_pos h,if_neg (by rw [h1];decide),if_neg (by rw [h2];decide),hp]
 simp only
 rw [if_pos h3]
end Go.Proofs.YtddfdmopaeghnadGreatDoor
namespace Go.Proofs.YtddfdmopaeghnadGreatDoor
def hashW (s:ByteArray):Bool:=Lib.hasPrefix s.data.toList [35]
def blankR (x:Nat):Bool:=x==32
def fldW (s:ByteArray):List ByteArray:=Lib.goFieldsP blankR (s.extract 1 s.size)
def costL (l:List ByteArray):Nat:=(l.map (fun t=>t.size+1)).sum
theorem costL_app (a b:List ByteArray):costL (a++b)=costL a+costL b:=by simp [costL]
theorem costL_len (l:List ByteArray):l.length<=costL l:=by
 induction l with
 | nil=>simp
 | cons x r ih=>simp only [costL,List.map_cons,List.sum_cons,List.length_cons] at *;omega
def joinW (l:List ByteArray):ByteArray:=⟨(Lib.join (l.map (·.data.toList)) [32]).toArray⟩
theorem lens_cost (l:List ByteArray):Lib.lens (l.map (·.data.toList))+l.length=costL l:=by
 induction l with
 | nil=>rfl
 | cons x r ih =>
  simp only [costL,List.map_cons,List.sum_cons,Lib.lens,List.length_cons,Array.length_toList] at *
  have:x.data.size=x.size:=rfl
  omega
theorem join_cost (l:List ByteArray):(Lib.join (l.map (·.data.toList)) [32]).length<=costL l:=by
 cases l with
 | nil=>simp [Lib.join_nil]
 | cons x r =>
  have h:=lens_cost (x::r)
  rw [List.map_cons,Lib.join_length]
  simp only [List.map_cons,List.length_cons,List.length_map,List.length_nil] at *
  omega
theorem joinW_size (l:List ByteArray):(joinW l).size<=costL l:=by
 have h:=join_cost l
 unfold joinW
 simpa [ByteArray.size] using h
def pcst (l:List (Nat × Nat)):Nat:=(l.map fun x=>x.2-x.1+1).sum
theorem pcst_snoc (l:List (Nat × Nat)) (x:Nat × Nat):pcst (l++[x])=pcst l+(x.2-x.1+1):=by simp [pcst]
def SpIn (n pos:Nat) (acc:List (Nat × Nat)):Option Nat->Prop
 | none=>pcst acc<=pos/\pcst acc<=n
 | some a=>pcst acc<=a/\a<=pos/\a<n
def SpOut (n:Nat) (r:List (Nat × Nat) × Option Nat):Prop:=match r.2 with
 | none=>pcst r.1<=n
 | some a=>pcst r.1<=a/\a<n
theorem sp_out {n pos:Nat} {acc:List (Nat × Nat)} {st:Option Nat} (h:SpIn n pos acc st):SpOut n (acc,st):=by
 cases st with
 | none=>exact h.2
 | some a=>exact ⟨h.1,h.2.2⟩
theorem span_cost (p:Nat->Bool) (s:ByteArray):∀ (f pos:Nat) (st:Option Nat) (acc:List (Nat × Nat)),SpIn s.size pos acc st->SpOut s.size (Lib.spansFromP p s f pos st acc):=by
 intro f
 induction f with
 | zero=>intro pos st acc h;exact sp_out h
 | succ f ih =>
  intro pos st acc h
  by_cases hp:pos<s.size
  ·have hw:1<=(Utf8.decode s pos).2:=Lib.width_pos s pos
   cases hq:p (Utf8.decode s pos).1 with
   | true =>
    cases st with
    | none =>
     obtain ⟨h1,h2⟩:=h
     have e:Lib.spansFromP p s (f+1) pos none acc=Lib.spansFromP p s f (pos+(Utf8.decode s pos).2) none acc:=by simp [Lib.spansFromP,hp,hq]
     rw [e]
     exact ih _ _ _ ⟨by omega,h2⟩
    | some a =>
     obtain ⟨h1,h2,h3⟩:=h
     have e:Lib.spansFromP p s (f+1) pos (some a) acc=Lib.spansFromP p s f (pos+(Utf8.decode s pos).2) none (acc++[(a,pos)]):=by simp [Lib.spansFromP,hp,hq]
     rw [e]
     exact ih _ _ _ ⟨by rw [pcst_snoc];simp only;omega,by rw [pcst_snoc];simp only;omega⟩
   | false =>
    cases st with
    | none =>
     obtain ⟨h1,h2⟩:=h
     have e:Lib.spansFromP p s (f+1) pos none acc=Lib.spansFromP p s f (pos+(Utf8.decode s pos).2) (some pos) acc:=by simp [Lib.spansFromP,hp,hq]
     rw [e]
     exact ih _ _ _ ⟨h1,by omega,hp⟩
    | some a =>
     obtain ⟨h1,h2,h3⟩:=h
     have e:Lib.spansFromP p s (f+1) pos (some a) acc=Lib.spansFromP p s f (pos+(Utf8.decode s pos).2) (some a) acc:=by simp [Lib.spansFromP,hp,hq]
     rw [e]
     exact ih _ _ _ ⟨h1,by omega,h3⟩
  ·rw [Lib.spansFromP_end p s _ pos st acc hp]
   exact sp_out h
theorem spans_cost (p:Nat->Bool) (s:ByteArray):pcst (Lib.spansOfP p s)<=s.size+1:=by
 have h:=span_cost p s s.size 0 none [] ⟨by simp [pcst],by simp [pcst]⟩
 unfold Lib.spansOfP Lib.closeSpans
 unfold SpOut at h
 cases hr:(Lib.spansFromP p s s.size 0 none []).2 with
 | none=>rw [hr] at h;simp only at h ⊢;omega
 | some a =>
  rw [hr] at h
  obtain ⟨h1,h2⟩:=h
  simp only
  rw [pcst_snoc]
  simp only
  omega
theorem fields_cost (p:Nat->Bool) (s:ByteArray):costL (Lib.goFieldsP p s)<=s.size+1:=by
 refine Nat.le_trans ?_ (spans_cost p s)
 unfold Lib.goFieldsP
 generalize Lib.spansOfP p s=l
 induction l with
 | nil=>simp [costL,pcst]
 | cons x r ih =>
  simp only [costL,pcst,List.map_cons,List.sum_cons] at *
  have:(s.extract x.1 x.2).size<=x.2-x.1:=by simp;omega
  omega
theorem fld_cost {s:ByteArray} (h:hashW s=true):costL (fldW s)<=s.size:=by
 have h0:0<s.size:=by
  rcases Nat.eq_zero_or_pos s.size with h1|h1
  ·have:s.data.toList=[]:=List.eq_nil_of_length_eq_zero (by simpa using h1)
   simp [hashW,Lib.hasPrefix,this] at h
  ·exact h1
 have h2:=fields_cost blankR (s.extract 1 s.size)
 have h3:(s.extract 1 s.size).size=s.size-1:=by simp
 unfold fldW
 omega
def notesP (ws:List ByteArray):Nat->List ByteArray->Nat->List ByteArray × Nat
 | 0,out,k=>(out,k)
 | f+1,out,k=>if hashW (wdAt ws k)=true then notesP ws f (out++fldW (wdAt ws k)) (k+1) else (out,k)
def noteP (ws:List ByteArray) (k:Nat):List Nd × Nat:=([⟨9,joinW (notesP ws ws.length [] k).1,0⟩],(notesP ws ws.length [] k).2)
theorem hashW_lt {ws:List ByteArray} {k:Nat} (h:hashW (wdAt ws k)=true):k<ws.length:=by
 refine wdAt_lt (fun e=>?_)
 rw [ByteArray.toList_eq] at e
 simp [hashW,Lib.hasPrefix,e] at h
end Go.Proofs.YtddfdmopaeghnadGreatDoor
namespace Go.Proofs.YtddfdmopaeghnadGreatDoor
def At (ws:List ByteArray) (k:Nat) (tk:List (List UInt8)):Prop:=∀ j,j<tk.length->(wdAt ws (k+j)).data.toList=tk.getD j []
section
variable {ws:List ByteArray} {k:Nat} {a b:List (List UInt8)} {c:List UInt8}
theorem At.left (h:At ws k (a++b)):At ws k a:=fun j hj=>by
 have:=h j (by rw [List.length_append];omega)
 rw [this]
 simp [List.getD_eq_getElem?_getD,List.getElem?_append_left hj]
theorem At.right (h:At ws k (a++b)):At ws (k+a.length) b:=fun j hj=>by
 have:=h (a.length+j) (by rw [List.length_append];omega)
 rw [Nat.add_assoc,this]
 simp [List.getD_eq_getElem?_getD,List.getElem?_append_right]
theorem At.head (h:At ws k (c::b)):(wdAt ws k).data.toList=c:=h 0 (by simp)
theorem At.tail (h:At ws k (c::b)):At ws (k+1) b:=fun j hj=>by
 have:=h (j+1) (by simp;omega)
 rw [show k+1+j=k+(j+1) by omega,this];rfl
theorem At.is (h:At ws k (c::b)) (d:List UInt8):isW ws k d=(c==d):=by rw [isW,ByteArray.toList_eq,h.head]
theorem At.yes (h:At ws k (c::b)):isW ws k c=true:=by rw [h.is];simp
theorem At.no (h:At ws k (c::b)) {d:List UInt8} (hd:c≠d):isW ws k d=false:=by rw [h.is];simpa using hd
theorem At.of_eq (h:At ws k a) {a':List (List UInt8)} {k':Nat} (ha:a=a') (hk:k=k'):At ws k' a':=ha▸hk▸h
end
def seg (l:List Nd) (a b:Nat):List Nd:=(l.drop a).take (b-a)
theorem seg_nil (l:List Nd) (a:Nat):seg l a a=[]:=by simp [seg]
theorem seg_cons {l:List Nd} {i b:Nat} (hi:i<l.length) (hb:i<b):seg l i b=l[i]::seg l (i+1) b:=by
 unfold seg
 rw [List.drop_eq_getElem_cons hi,show b-i=(b-(i+1))+1 by omega,List.take_succ_cons]
theorem seg_app {l:List Nd} {a b c:Nat} (h1:a<=b) (h2:b<=c):seg l a b++seg l b c=seg l a c:=by
 unfold seg
 have e:l.drop b=(l.drop a).drop (b-a):=by rw [List.drop_drop];congr 1;omega
 rw [e,show c-a=(b-a)+(c-b) by omega,List.take_add]
theorem seg_all (l:List Nd):seg l 0 l.length=l:=by simp [seg]
section
variable {ws:List ByteArray} {op:Int} {sg:List UInt8} {part:Nat->PrR} {g k k':Nat} {out x:List Nd}
theorem chainP_more (h:isW ws k sg=true) (hp:part (k+1)=.ok (x,k')):chainP ws op sg part (g+1) out k=chainP ws op sg part g (⟨op,.empty,0⟩::(out++x)) k':=by rw [chainP,if_pos h,hp]
theorem chainP_end (h:isW ws k sg=false):chainP ws op sg part g out k=.ok (out,k):=by
 cases g with
 | zero=>rfl
 | succ g=>rw [chainP,if_neg (by rw [h];decide)]
theorem chainS_of (hp:part k=.ok (x,k')):chainS ws op sg part k=chainP ws op sg part ws.length x k':=by rw [chainS,hp]
end
def HdOk (w:List UInt8):Prop:=w≠[41]/\w≠[93]/\w≠[108,101,116]/\w.head?≠some 35
theorem hd_name {t:ByteArray} (h:nameF t=true):HdOk t.data.toList:=by
 obtain ⟨h0,h8,hl⟩:=name_facts h
 have hne:∀ c ∈ t.data.toList,97<=c.toNat:=fun c hc=>by
  have:=List.all_eq_true.1 hl c hc
  simp only [lowC,Bool.and_eq_true,decide_eq_true_eq] at this
  exact this.1
 refine ⟨fun e=>?_,fun e=>?_,fun e=>?_,fun e=>?_⟩
 ·have:=hne 41 (by rw [e];simp);simp at this
 ·have:=hne 93 (by rw [e];simp);simp at this
 ·simp only [nameF,Bool.and_eq_true,Bool.not_eq_true',beq_eq_false_iff_ne,ByteArray.toList_eq] at h
  exact h.1.2 e
 ·cases hd:t.data.toList with
  | nil=>rw [hd] at e;cases e
  | cons c r =>
   rw [hd] at e
   simp at e
   have:=hne c (by rw [hd];simp)
   subst e;simp at this
theorem hd_num {n:Int} (h0:0<=n) (h:n<=999999):HdOk (Lib.itoa n):=by
 have hd:=itoa_digs h0
 have hl:=(itoa_len6 h0 h).1
 refine ⟨fun e=>?_,fun e=>?_,fun e=>?_,fun e=>?_⟩
 ·have:=hd 41 (by rw [e];simp);simp at this
 ·have:=hd 93 (by rw [e];simp);simp at this
 ·have:=hd 108 (by rw [e];simp);simp at this
 ·cases hq:Lib.itoa n with
  | nil=>rw [hq] at e;cases e
  | cons c r =>
   rw [hq] at e
   simp at e
   have:=hd c (by rw [hq];simp)
   subst e;simp at this
theorem kid_head {po ko:Int} {b:Bool} {x:List (List UInt8)} (h:∃ w t,x=w::t/\HdOk w):∃ w t,kidK po ko b x=w::t/\HdOk w:=by
 unfold kidK
 split
 ·exact ⟨[40],_,rfl,by refine ⟨?_, ?_, ?_, ?_⟩ <;> decide⟩
 ·exact h
theorem tok_head {l:List Nd} (hT:Tr l):∀ f i:Nat,l.length<=i+f->(hi:i<l.length)->l[i].op<=6->∃ w t,tokT l f i=w::t/\HdOk w:=by
 intro f
 induction f with
 | zero=>intro i h1 h2;omega
 | succ f ih =>
  intro i h1 h2 h9
  have hk:=hT.kidsP h2
  have hm:(manyL l).getD i 0=(manyF l[i].op l[i].n).toNat:=manyL_at h2 rfl
  have hone:=hT.one _ (List.getElem_mem h2)
  have hop:1<=l[i].op:=by
   by_cases hc:l[i].op<1
   ·rw [treeOne,if_pos (.inl hc)] at hone;cases hone
   ·omega
  rw [hm] at hk
  rw [tokT,getD_at h2]
  generalize l[i].op=op at *
  generalize l[i].n=n at *
  generalize l[i].text=t at *
  have hcs:op=1∨op=2∨op=3∨op=4∨op=5∨op=6:=by omega
  rcases hcs with rfl|rfl|rfl|rfl|rfl|rfl
  ·obtain ⟨n0,n1⟩:=tone_num hone
   simp only [if_true]
   exact ⟨_,_,rfl,hd_num n0 n1⟩
  ·simp only [show ¬ (2:Int)=1 by decide,if_false,if_true]
   exact ⟨_,_,rfl,hd_name (tone_word hone rfl (by decide))⟩
  ·simp only [show ¬ (3:Int)=1 by decide,show ¬ (3:Int)=2 by decide,if_false,if_true]
   exact ⟨_,_,rfl,hd_name (tone_word hone rfl (by decide))⟩
  ·simp only [show ¬ (4:Int)=1 by decide,show ¬ (4:Int)=2 by decide,show ¬ (4:Int)=3 by decide,if_false,if_true]
   exact ⟨_,_,rfl,by refine ⟨?_, ?_, ?_, ?_⟩ <;> decide⟩
  ·obtain ⟨w,u,e,hw⟩:=kid_head (po:=5) (ko:=opAt l (i+1)) (b:=false) (ih (i+1) (by omega) hk.1 (hT.low hk.1 (by omega)))
   simp only [show ¬ (5:Int)=1 by decide,show ¬ (5:Int)=2 by decide,show ¬ (5:Int)=3 by decide,show ¬ (5:Int)=4 by decide,if_false,if_true]
   exact ⟨w,_,by rw [e];rfl,hw⟩
  ·obtain ⟨w,u,e,hw⟩:=kid_head (po:=6) (ko:=opAt l (i+1)) (b:=false) (ih (i+1) (by omega) hk.1 (hT.low hk.1 (by omega)))
   simp only [show ¬ (6:Int)=1 by decide,show ¬ (6:Int)=2 by decide,show ¬ (6:Int)=3 by decide,show ¬ (6:Int)=4 by decide,show ¬ (6:Int)=5 by decide,if_false,if_true]
   exact ⟨w,_,by rw [e];rfl,hw⟩
def lvK (lv:Nat) (op:Int) (x:List (List UInt8)):List (List UInt8):=if (lv=1/\op=5)∨(lv=2/\(op=5∨op=6)) then [40]::(x++[[41]]) else x
structure Rd (ws:List ByteArray) (op:Int) (tok:List (List UInt8)) (x:List Nd):Prop where
 two:∀ F k,At ws k (lvK 2 op tok)->3*(lvK 2 op tok).length<=F+2->isW ws (k+(lvK 2 op tok).length) [40]=false->pE ws F 2 k=.ok (x,k+(lvK 2 op tok).length)
 oneC:op≠5->∀ F k,At ws k tok->3*tok.length<=F+2->isW ws (k+tok.length) [40]=false->∃ g,ws.length<=g+(k+tok.length)/\chainS ws 6 [42] (pE ws F 2) k=chainP ws 6 [42] (pE ws F 2) g x (k+tok.length)
 one:∀ F k,At ws k (lvK 1 op tok)->3*(lvK 1 op tok).length<=F+1->isW ws (k+(lvK 1 op tok).length) [40]=false->isW ws (k+(lvK 1 op tok).length) [42]=false->pE ws F 1 k=.ok (x,k+(lvK 1 op tok).length)
 zeroC:∀ F k,At ws k tok->3*tok.length<=F+1->isW ws (k+tok.length) [40]=false->isW ws (k+tok.length) [42]=false->∃ g,ws.length<=g+(k+tok.length)/\chainS ws 5 [43] (pE ws F 1) k=chainP ws 5 [43] (pE ws F 1) g x (k+tok.length)
 zero:∀ F k,At ws k tok->3*tok.length<=F->isW ws (k+tok.length) [40]=false->isW ws (k+tok.length) [42]=false->isW ws (k+tok.length) [43]=false->pE ws F 0 k=.ok (x,k+tok.length)
theorem Rd.of {ws:List ByteArray} {op:Int} {tok:List (List UInt8)} {x:List Nd} (hn:0<tok.length)
  (raw:op≠5->op≠6->∀ F k,At ws k tok->3*tok.length<=F+2->isW ws (k+tok.length) [40]=false->pE ws F 2 k=.ok (x,k+tok.length))
  (prod:op=6->∀ F k,At ws k tok->3*tok.length<=F+2->isW ws (k+tok.length) [40]=false->∃ g,ws.length<=g+(k+tok.length)/\chainS ws 6 [42] (pE ws F 2) k=chainP ws 6 [42] (pE ws F 2) g x (k+tok.length))
  (sum:op=5->∀ F k,At ws k tok->3*tok.length<=F+1->isW ws (k+tok.length) [40]=false->isW ws (k+tok.length) [42]=false->∃ g,ws.length<=g+(k+tok.length)/\chainS ws 5 [43] (pE ws F 1) k=chainP ws 5 [43] (pE ws F 1) g x (k+tok.length)):Rd ws op tok x:=by
 have oneC:op≠5->∀ F k,At ws k tok->3*tok.length<=F+2->isW ws (k+tok.length) [40]=false->∃ g,ws.length<=g+(k+tok.length)/\chainS ws 6 [42] (pE ws F 2) k=chainP ws 6 [42] (pE ws F 2) g x (k+tok.length):=by
  intro h5 F k ha hF h40
  by_cases h6:op=6
  ·exact prod h6 F k ha hF h40
  ·exact ⟨ws.length,by omega,chainS_of (raw h5 h6 F k ha hF h40)⟩
 have one_:op≠5->∀ F k,At ws k tok->3*tok.length<=F+1->isW ws (k+tok.length) [40]=false->isW ws (k+tok.length) [42]=false->pE ws F 1 k=.ok (x,k+tok.length):=by
  intro h5 F k ha hF h40 h42
  obtain ⟨F,rfl⟩:∃ F',F=F'+1:=⟨F-1,by omega⟩
  obtain ⟨g,hg,e⟩:=oneC h5 F k ha (by omega) h40
  rw [pE_one,e,chainP_end h42]
 have zeroC:∀ F k,At ws k tok->3*tok.length<=F+1->isW ws (k+tok.length) [40]=false->isW ws (k+tok.length) [42]=false->∃ g,ws.length<=g+(k+tok.length)/\chainS ws 5 [43] (pE ws F 1) k=chainP ws 5 [43] (pE ws F 1) g x (k+tok.length):=by
  intro F k ha hF h40 h42
  by_cases h5:op=5
  ·exact sum h5 F k ha hF h40 h42
  ·exact ⟨ws.length,by omega,chainS_of (one_ h5 F k ha hF h40 h42)⟩
 have zero:∀ F k,At ws k tok->3*tok.length<=F->isW ws (k+tok.length) [40]=false->isW ws (k+tok.length) [42]=false->isW ws (k+tok.length) [43]=false->pE ws F 0 k=.ok (x,k+tok.length):=by
  intro F k ha hF h40 h42 h43
  obtain ⟨F,rfl⟩:∃ F',F=F'+1:=⟨F-1,by omega⟩
  obtain ⟨g,hg,e⟩:=zeroC F k ha (by omega) h40 h42
  rw [pE_zero,e,chainP_end h43]
 have br:∀ F k,At ws k ([40]::(tok++[[41]]))->3*(tok.length+2)<=F+2->pE ws F 2 k=.ok (x,k+(tok.length+2)):=by
  intro F k ha hF
  obtain ⟨F,rfl⟩:∃ F',F=F'+1:=⟨F-1,by omega⟩
  have a1:=ha.tail.left
  have a2:=ha.tail.right
  have z:=zero F (k+1) a1 (by omega) (a2.no (by decide)) (a2.no (by decide)) (a2.no (by decide))
  rw [pE_two,oneP_1g ha.yes z a2.yes,show k+1+tok.length+1=k+(tok.length+2) by omega]
 have hl:∀ lv,lvK lv op tok=[40]::(tok++[[41]])->(lvK lv op tok).length=tok.length+2:=fun lv h=>by rw [h];simp
 refine ⟨fun F k ha hF h40=>?_,oneC,fun F k ha hF h40 h42=>?_,zeroC,zero⟩
 ·by_cases h:op=5∨op=6
  ·have e:lvK 2 op tok=[40]::(tok++[[41]]):=by rw [lvK,if_pos (.inr ⟨rfl,h⟩)]
   have el:=hl 2 e
   rw [el] at hF ⊢
   rw [e] at ha
   exact br F k ha (by omega)
  ·have e:lvK 2 op tok=tok:=by rw [lvK,if_neg (by omega)]
   rw [e] at ha hF h40 ⊢
   exact raw (by omega) (by omega) F k ha hF h40
 ·by_cases h:op=5
  ·have e:lvK 1 op tok=[40]::(tok++[[41]]):=by rw [lvK,if_pos (.inl ⟨rfl,h⟩)]
   have el:=hl 1 e
   rw [el] at hF h42 ⊢
   rw [e] at ha
   obtain ⟨F,rfl⟩:∃ F',F=F'+1:=⟨F-1,by omega⟩
   rw [pE_one,chainS_of (br F k ha (by omega)),chainP_end h42]
  ·have e:lvK 1 op tok=tok:=by rw [lvK,if_neg (by omega)]
   rw [e] at ha hF h40 h42 ⊢
   exact one_ h F k ha hF h40 h42
def rstK (g:Nat->List (List UInt8)) (e:Nat->Nat) (j a m:Nat):List (List UInt8):=if m=0 then [] else (if j=0 then [] else [[44]])++kidsK g e a m
theorem rstK_succ (g:Nat->List (List UInt8)) (e:Nat->Nat) (j a m:Nat):rstK g e j a (m+1)=(if j=0 then [] else [[44]])++(g a++rstK g e (j+1) (e a) m):=by
 rw [rstK,if_neg (by omega),kidsK,rstK]
 by_cases h:m=0
 ·simp [h]
 ·simp [h]
theorem rstK_zero (g:Nat->List (List UInt8)) (e:Nat->Nat) (a m:Nat):rstK g e 0 a m=kidsK g e a m:=by
 rw [rstK]
 cases m with
 | zero=>rfl
 | succ m=>rw [if_neg (by omega),if_pos rfl,List.nil_append]
theorem many_tok {ws:List ByteArray} {l:List Nd} {g:Nat->List (List UInt8)} {F:Nat} {ed:List UInt8} (he:ed=[41]∨ed=[93]):∀ (m a z j G:Nat) (out:List Nd) (k:Nat),KidsP l a m z->(∀ b,a<=b->b<l.length->Rd ws (opAt l b) (g b) (seg l b (tEnd l b))/\∃ w t,g b=w::t/\HdOk w) ->
  At ws k (rstK g (tEnd l) j a m++[ed])->3*(rstK g (tEnd l) j a m).length<=F->m<G->a<=z/\manyP ws ed (pE ws F 0) G j out k=.ok (j+m,out++seg l a z,k+(rstK g (tEnd l) j a m).length+1):=by
 intro m
 induction m with
 | zero =>
  intro a z j G out k hk hr ha hF hG
  rw [KidsP] at hk
  subst hk
  obtain ⟨G,rfl⟩:∃ G',G=G'+1:=⟨G-1,by omega⟩
  have ha0:At ws k [ed]:=ha
  rw [manyP,if_pos ha0.yes,seg_nil,List.append_nil]
  exact ⟨Nat.le_refl _,rfl⟩
 | succ m ih =>
  intro a z j G out k hk hr ha hF hG
  obtain ⟨h1,h2,h3⟩:=hk
  obtain ⟨hrd,w,t,hw,hd⟩:=hr a (Nat.le_refl _) h1
  obtain ⟨G,rfl⟩:∃ G',G=G'+1:=⟨G-1,by omega⟩
  rw [rstK_succ] at ha hF ⊢
  have hpre:∀ q,(j=0->q=k)->(0<j->q=k+1)->At ws q (g a++(rstK g (tEnd l) (j+1) (tEnd l a) m++[ed]))->isW ws k ed=false->¬ (0<j/\isW ws k [44]=false)->(if 0<j then k+1 else k)=q ->
    a<=z/\manyP ws ed (pE ws F 0) (G+1) j out k=.ok (j+(m+1),out++seg l a z,q+(g a++rstK g (tEnd l) (j+1) (tEnd l a) m).length+1):=by
   intro q _ _ hq hne hcm hqq
   have hq2:=hq.right
   have hnx:∀ d,d≠[44]->d≠ed->isW ws (q+(g a).length) d=false:=fun d d1 d2=>by
    rw [rstK] at hq2
    by_cases hm:m=0
    ·rw [if_pos hm] at hq2
     exact hq2.no (fun e=>d2 e.symm)
    ·rw [if_neg hm,if_neg (by omega)] at hq2
     exact hq2.no (fun e=>d1 e.symm)
   have hed:[40]≠ed/\[42]≠ed/\[43]≠ed:=by rcases he with rfl|rfl <;> decide
   simp only [List.length_append] at hF
   have z0:=hrd.zero F q hq.left (by omega) (hnx _ (by decide) hed.1) (hnx _ (by decide) hed.2.1) (hnx _ (by decide) hed.2.2)
   obtain ⟨g1,g2⟩:=ih (tEnd l a) z (j+1) G (out++seg l a (tEnd l a)) (q+(g a).length) h3 (fun b hb hl=>hr b (by omega) hl) hq2 (by omega) (by omega)
   refine ⟨by omega, ?_⟩
   rw [manyP,if_neg (by rw [hne];decide),if_neg hcm,hqq,z0]
   simp only
   rw [g2,List.append_assoc,seg_app (by omega) g1,List.length_append,show j+1+m=j+(m+1) by omega,show q+(g a).length+(rstK g (tEnd l) (j+1) (tEnd l a) m).length=q+((g a).length+(rstK g (tEnd l) (j+1) (tEnd l a) m).length) by omega]
  by_cases hj:j=0
  ·rw [if_pos hj,List.nil_append,List.append_assoc] at ha
   have hne:isW ws k ed=false:=by
    rw [hw,List.cons_append] at ha
    refine ha.no ?_
    rcases he with rfl|rfl
    ·exact hd.1
    ·exact hd.2.1
   have:=hpre k (fun _=>rfl) (fun h=>by omega) ha hne (by omega) (by rw [if_neg (by omega)])
   rw [if_pos hj,List.nil_append]
   exact this
  ·rw [if_neg hj] at ha
   have ha2:At ws k ([44]::(g a++(rstK g (tEnd l) (j+1) (tEnd l a) m++[ed]))):=ha.of_eq (by simp) rfl
   have hne:isW ws k ed=false:=ha2.no (by rcases he with rfl|rfl <;> decide)
   have:=hpre (k+1) (fun h=>by omega) (fun _=>rfl) ha2.tail hne (by rw [ha2.yes];simp) (by rw [if_pos (by omega)])
   rw [if_neg hj,this.2]
   refine ⟨this.1, ?_⟩
   congr 3
   simp only [List.length_append,List.length_cons,List.length_nil]
   omega
theorem kids_ge {l:List Nd} {g:Nat->List (List UInt8)}:∀ (m a z j:Nat),KidsP l a m z->(∀ b,a<=b->b<l.length->∃ w t,g b=w::t/\HdOk w)->m<=(rstK g (tEnd l) j a m).length:=by
 intro m
 induction m with
 | zero=>intro a z j _ _;exact Nat.zero_le _
 | succ m ih =>
  intro a z j hk hr
  obtain ⟨h1,h2,h3⟩:=hk
  obtain ⟨w,t,hw,_⟩:=hr a (Nat.le_refl _) h1
  have:=ih (tEnd l a) z (j+1) h3 (fun b hb hl=>hr b (by omega) hl)
  rw [rstK_succ,hw]
  simp only [List.length_append,List.length_cons]
  omega
theorem kidK_1 (ko:Int) (x:List (List UInt8)):kidK 5 ko false x=x:=by simp [kidK,boundF]
theorem kidK_2 (ko:Int) (x:List (List UInt8)):kidK 5 ko true x=lvK 1 ko x:=by
 unfold kidK lvK boundF
 by_cases h:ko=5 <;> simp [h]
theorem kidK_3 (ko:Int) (x:List (List UInt8)):kidK 6 ko false x=lvK 1 ko x:=by
 unfold kidK lvK boundF
 by_cases h:ko=5 <;> simp [h]
theorem kidK_4 (ko:Int) (x:List (List UInt8)):kidK 6 ko true x=lvK 2 ko x:=by
 unfold kidK lvK boundF
 by_cases h:ko=5
 ·simp [h]
 ·by_cases h2:ko=6 <;> simp [h,h2]
theorem tone_t {op n:Int} {t:ByteArray} (h:treeOne op t n=0) (hm:namedF op=false):t=.empty:=by
 unfold treeOne at h
 split at h
 ·cases h
 ·split at h
  ·cases h
  ·rename_i hh
   by_cases hn:t.toList=[]
   ·rw [ByteArray.toList_eq] at hn
    exact ByteArray.ext (Array.toList_inj.1 hn)
   ·exact absurd (.inr ⟨hm,hn⟩) hh
theorem wd_is {ws:List ByteArray} {k:Nat} {t:ByteArray} {b:List (List UInt8)} (h:At ws k (t.data.toList::b)):wdAt ws k=t:=ByteArray.ext (Array.toList_inj.1 h.head)
theorem name_dig {t:ByteArray} (h:nameF t=true):digW t=false:=by
 obtain ⟨h0,h8,hl⟩:=name_facts h
 unfold digW
 cases hd:t.data.toList with
 | nil=>rfl
 | cons c r =>
  have:=List.all_eq_true.1 hl c (by rw [hd];simp)
  simp only [lowC,Bool.and_eq_true,decide_eq_true_eq] at this
  simp only [digC,Bool.and_eq_false_iff,decide_eq_false_iff_not]
  omega
theorem name_sign {t:ByteArray} (h:nameF t=true) {c:UInt8} (hc:c.toNat<97):t.data.toList≠[c]:=fun e=>by
 have:=List.all_eq_true.1 (name_facts h).2.2 c (by rw [e];simp)
 simp only [lowC,Bool.and_eq_true,decide_eq_true_eq] at this
 omega
theorem rq52 {P:Prop} (h:P:=by
 have hge:n.toNat<=(rstK (tokT l f) (tEnd l) 0 (i+1) n.toNat).length:=kids_ge _ _ _ _ hk (fun b hb hl=>(ihk b hb hl).2)
 simp only [List.length_append,List.length_cons,List.length_nil] at hl3
 omega):P:=h
theorem tok_read {ws:List ByteArray} {l:List Nd} (hT:Tr l):∀ f i:Nat,l.length<=i+f->(hi:i<l.length)->l[i].op<=6->Rd ws (opAt l i) (tokT l f i) (seg l i (tEnd l i)):=by
 intro f
 induction f with
 | zero=>intro i h1 h2;omega
 | succ f ih =>
  intro i h1 h2 h9
  have hk:=hT.kidsP h2
  have hb:=(tEnd_bd h2).1
  have hm:(manyL l).getD i 0=(manyF l[i].op l[i].n).toNat:=manyL_at h2 rfl
  have hone:=hT.one _ (List.getElem_mem h2)
  have hop:1<=l[i].op:=by
   by_cases hc:l[i].op<1
   ·rw [treeOne,if_pos (.inl hc)] at hone;cases hone
   ·omega
  obtain ⟨w0,t0,hhd,hw0⟩:=tok_head hT (f+1) i h1 h2 h9
  have hlen:0<(tokT l (f+1) i).length:=by rw [hhd];simp
  clear hhd hw0 w0 t0
  rw [hm] at hk
  have ihr:∀ b,i+1<=b->b<l.length->Rd ws (opAt l b) (tokT l f b) (seg l b (tEnd l b)):=fun b hb hl=>ih b (by omega) hl (hT.low hl (by omega))
  have ihk:∀ b,i+1<=b->b<l.length->Rd ws (opAt l b) (tokT l f b) (seg l b (tEnd l b))/\∃ w t,tokT l f b=w::t/\HdOk w:=fun b hb hl=>⟨ihr b hb hl,tok_head hT f b (by omega) hl (hT.low hl (by omega))⟩
  rw [opAt_of h2,seg_cons h2 hb]
  rw [tokT,getD_at h2] at hlen ⊢
  have hnd:l[i]=⟨l[i].op,l[i].text,l[i].n⟩:=rfl
  rw [hnd]
  generalize l[i].op=op at *
  generalize l[i].n=n at *
  generalize l[i].text=t at *
  clear hnd
  have hcs:op=1∨op=2∨op=3∨op=4∨op=5∨op=6:=by omega
  rcases hcs with rfl|rfl|rfl|rfl|rfl|rfl
  ·obtain ⟨n0,n1⟩:=tone_num hone
   obtain rfl:=tone_t hone rfl
   simp only [if_true] at hlen ⊢
   have hz:i+1=tEnd l i:=hk
   rw [← hz,seg_nil]
   refine Rd.of hlen (fun _ _ F k ha hF h40=>?_) (fun h=>by omega) (fun h=>by omega)
   have hF1:3*1<=F+2:=hF
   obtain ⟨F,rfl⟩:∃ F',F=F'+1:=⟨F-1,by omega⟩
   obtain ⟨a1,a2,a3⟩:=decDigits_facts n.toNat
   rw [itoa_nat n0] at ha
   have hne:Lib.decDigits n.toNat≠[]:=fun e=>by
    have:=(itoa_len6 n0 n1).1
    rw [itoa_nat n0,e] at this;simp at this
   have hsg:∀ c:UInt8,digB c=false->Lib.decDigits n.toNat≠[c]:=fun c hc e=>by
    have:=a1 c (by rw [e];simp)
    rw [hc] at this;cases this
   have hdg:digW (wdAt ws k)=true:=by
    unfold digW
    rw [ha.head]
    cases hd:Lib.decDigits n.toNat with
    | nil=>exact absurd hd hne
    | cons c r=>exact a1 c (by rw [hd];simp)
   rw [pE_two,oneP_3 (ha.no (hsg 40 (by decide))) (ha.no (hsg 91 (by decide))) hdg]
   have hnum:numW (wdAt ws k)=n:=by
    unfold numW
    rw [ha.head,a3];omega
   rw [hnum];rfl
  ·have hnm:=tone_word hone rfl (by decide)
   obtain rfl:=tone_n hone (by decide)
   simp only [show ¬ (2:Int)=1 by decide,if_false,if_true] at hlen ⊢
   have hz:i+1=tEnd l i:=hk
   rw [← hz,seg_nil]
   refine Rd.of hlen (fun _ _ F k ha hF h40=>?_) (fun h=>by omega) (fun h=>by omega)
   have hF1:3*1<=F+2:=hF
   obtain ⟨F,rfl⟩:∃ F',F=F'+1:=⟨F-1,by omega⟩
   have hw:=wd_is ha
   rw [pE_two,oneP_5 (ha.no (name_sign hnm (by decide))) (ha.no (name_sign hnm (by decide))) (by rw [hw];exact name_dig hnm) (by rw [hw];exact hnm) h40,hw]
   rfl
  ·have hnm:=tone_word hone rfl (by decide)
   rw [show manyF 3 n=n from rfl] at hk
   have hn0:0<=n:=(manyF_bd hone).1
   simp only [show ¬ (3:Int)=1 by decide,show ¬ (3:Int)=2 by decide,if_false,if_true] at hlen ⊢
   refine Rd.of hlen (fun _ _ F k ha hF h40=>?_) (fun h=>by omega) (fun h=>by omega)
   have hw:=wd_is ha
   simp only [List.length_cons,List.length_append,List.length_nil] at hF ⊢
   obtain ⟨F,rfl⟩:∃ F',F=F'+1:=⟨F-1,by omega⟩
   have a2:=ha.tail
   have a3:=a2.tail
   rw [← rstK_zero] at hF a3
   have hl3:k+1+1+(rstK (tokT l f) (tEnd l) 0 (i+1) n.toNat++[[41]]).length<=ws.length+1:=by
    have hlast:(wdAt ws (k+1+1+(rstK (tokT l f) (tEnd l) 0 (i+1) n.toNat).length)).toList≠[]:=by
     rw [ByteArray.toList_eq,a3.right.head];decide
    have:=wdAt_lt hlast
    rw [List.length_append]
    simp;omega
   have hkm:n.toNat<ws.length+1:=by
    have:n.toNat<=6*1∨True:=.inr trivial
    exact rq52
   obtain ⟨g1,g2⟩:=many_tok (F:=F) (G:=ws.length+1) (out:=[]) (j:=0) (.inl rfl) _ _ _ _ hk ihk a3 (by omega) hkm
   rw [List.nil_append,Nat.zero_add] at g2
   rw [pE_two,oneP_6g (ha.no (name_sign hnm (by decide))) (ha.no (name_sign hnm (by decide))) (by rw [hw];exact name_dig hnm) (by rw [hw];exact hnm) a2.yes g2,hw,show ((n.toNat:Nat):Int)=n by omega,rstK_zero]
   congr 2
   omega
  ·obtain rfl:=tone_t hone rfl
   rw [show manyF 4 n=n from rfl] at hk
   have hn0:0<=n:=(manyF_bd hone).1
   simp only [show ¬ (4:Int)=1 by decide,show ¬ (4:Int)=2 by decide,show ¬ (4:Int)=3 by decide,if_false,if_true] at hlen ⊢
   refine Rd.of hlen (fun _ _ F k ha hF h40=>?_) (fun h=>by omega) (fun h=>by omega)
   simp only [List.length_cons,List.length_append,List.length_nil] at hF ⊢
   obtain ⟨F,rfl⟩:∃ F',F=F'+1:=⟨F-1,by omega⟩
   have a3:=ha.tail
   rw [← rstK_zero] at hF a3
   have hl3:k+1+(rstK (tokT l f) (tEnd l) 0 (i+1) n.toNat++[[93]]).length<=ws.length+1:=by
    have hlast:(wdAt ws (k+1+(rstK (tokT l f) (tEnd l) 0 (i+1) n.toNat).length)).toList≠[]:=by
     rw [ByteArray.toList_eq,a3.right.head];decide
    have:=wdAt_lt hlast
    rw [List.length_append]
    simp;omega
   have hkm:n.toNat<ws.length+1:=by
    exact rq52
   obtain ⟨g1,g2⟩:=many_tok (F:=F) (G:=ws.length+1) (out:=[]) (j:=0) (.inr rfl) _ _ _ _ hk ihk a3 (by omega) hkm
   rw [List.nil_append,Nat.zero_add] at g2
   rw [pE_two,oneP_2g (ha.no (by decide)) ha.yes g2,show ((n.toNat:Nat):Int)=n by omega,rstK_zero]
   congr 2
   omega
  ·obtain rfl:=tone_t hone rfl
   obtain rfl:=tone_n hone (by decide)
   obtain ⟨a1,a2,b1,b2,b3⟩:i+1<l.length/\i+1<tEnd l (i+1)/\tEnd l (i+1)<l.length/\tEnd l (i+1)<tEnd l (tEnd l (i+1))/\tEnd l (tEnd l (i+1))=tEnd l i:=⟨hk.1,hk.2.1,hk.2.2.1,hk.2.2.2.1,hk.2.2.2.2⟩
   have q1:=ihr _ (Nat.le_refl _) a1
   have q2:=ihr _ (by omega) b1
   simp only [show ¬ (5:Int)=1 by decide,show ¬ (5:Int)=2 by decide,show ¬ (5:Int)=3 by decide,show ¬ (5:Int)=4 by decide,if_false,if_true,kidK_1,kidK_2] at hlen ⊢
   refine Rd.of hlen (fun h=>absurd rfl h) (fun h=>by omega) (fun _ F k ha hF h40 h42=>?_)
   rw [← seg_app (l:=l) (Nat.le_of_lt a2) (by omega:tEnd l (i+1)<=tEnd l i),← b3]
   have z1:=q1.zeroC F
   have z2:=q2.one F
   generalize tokT l f (i+1)=x at *
   generalize lvK 1 (opAt l (tEnd l (i+1))) (tokT l f (tEnd l (i+1)))=y at *
   simp only [List.length_append,List.length_cons] at hF h40 h42 ⊢
   have hr:=ha.right
   obtain ⟨g,hg,e⟩:=z1 k ha.left (by omega) (hr.no (by decide)) (hr.no (by decide))
   have hlt:k+x.length<ws.length:=isW_lt hr.yes
   obtain ⟨g,rfl⟩:∃ g',g=g'+1:=⟨g-1,by omega⟩
   have e2:=z2 (k+x.length+1) hr.tail (by omega) (by rw [← h40];congr 1;omega) (by rw [← h42];congr 1;omega)
   rw [e,chainP_more hr.yes e2]
   refine ⟨g,by omega, ?_⟩
   congr 1
   omega
  ·obtain rfl:=tone_t hone rfl
   obtain rfl:=tone_n hone (by decide)
   obtain ⟨a1,a2,b1,b2,b3⟩:i+1<l.length/\i+1<tEnd l (i+1)/\tEnd l (i+1)<l.length/\tEnd l (i+1)<tEnd l (tEnd l (i+1))/\tEnd l (tEnd l (i+1))=tEnd l i:=⟨hk.1,hk.2.1,hk.2.2.1,hk.2.2.2.1,hk.2.2.2.2⟩
   have q1:=ihr _ (Nat.le_refl _) a1
   have q2:=ihr _ (by omega) b1
   simp only [show ¬ (6:Int)=1 by decide,show ¬ (6:Int)=2 by decide,show ¬ (6:Int)=3 by decide,show ¬ (6:Int)=4 by decide,show ¬ (6:Int)=5 by decide,if_false,if_true,kidK_3,kidK_4] at hlen ⊢
   refine Rd.of hlen (fun _ h=>absurd rfl h) (fun _ F k ha hF h40=>?_) (fun h=>by omega)
   rw [← seg_app (l:=l) (Nat.le_of_lt a2) (by omega:tEnd l (i+1)<=tEnd l i),← b3]
   have hfst:∃ g,ws.length<=g+(k+(lvK 1 (opAt l (i+1)) (tokT l f (i+1))).length)/\chainS ws 6 [42] (pE ws F 2) k=chainP ws 6 [42] (pE ws F 2) g (seg l (i+1) (tEnd l (i+1))) (k+(lvK 1 (opAt l (i+1)) (tokT l f (i+1))).length):=by
    have hr:=ha.right
    have hl:=ha.left
    simp only [List.length_append,List.length_cons] at hF
    by_cases h6:opAt l (i+1)=6
    ·have e:lvK 1 (opAt l (i+1)) (tokT l f (i+1))=tokT l f (i+1):=by rw [lvK,if_neg (by omega)]
     rw [e] at hr hl hF ⊢
     exact q1.oneC (by omega) F k hl (by omega) (hr.no (by decide))
    ·have e:lvK 1 (opAt l (i+1)) (tokT l f (i+1))=lvK 2 (opAt l (i+1)) (tokT l f (i+1)):=by
      unfold lvK
      by_cases h5:opAt l (i+1)=5 <;> simp [h5,h6]
     rw [e] at hr hl hF ⊢
     exact ⟨ws.length,by omega,chainS_of (q1.two F k hl (by omega) (hr.no (by decide)))⟩
   have z2:=q2.two F
   generalize lvK 1 (opAt l (i+1)) (tokT l f (i+1))=x at *
   generalize lvK 2 (opAt l (tEnd l (i+1))) (tokT l f (tEnd l (i+1)))=y at *
   simp only [List.length_append,List.length_cons] at hF h40 ⊢
   have hr:=ha.right
   obtain ⟨g,hg,e⟩:=hfst
   have hlt:k+x.length<ws.length:=isW_lt hr.yes
   obtain ⟨g,rfl⟩:∃ g',g=g'+1:=⟨g-1,by omega⟩
   have e2:=z2 (k+x.length+1) hr.tail (by omega) (by rw [← h40];congr 1;omega)
   rw [e,chainP_more hr.yes e2]
   refine ⟨g,by omega, ?_⟩
   congr 1
   omega
theorem stmt_read {ws:List ByteArray} {l:List Nd} (h0:treeF l=0) (hi:0<l.length) (h9:l[0].op≠9) {k:Nat} (ha:At ws k (tokT l l.length 0)) :
  stmtP ws k=.ok (l,k+(tokT l l.length 0).length)/\hashW (wdAt ws k)=false:=by
 have hT:=Tr.of_check h0
 have hk:=hT.kidsP hi
 have hm:(manyL l).getD 0 0=(manyF l[0].op l[0].n).toNat:=manyL_at hi rfl
 have hone:=hT.one _ (List.getElem_mem hi)
 have hop:7<=l[0].op/\l[0].op<=9:=by
  have h1:=hT.tops hi
  rw [decide_eq_true rfl] at h1
  refine ⟨of_decide_eq_true h1, ?_⟩
  by_cases hc:9<l[0].op
  ·rw [treeOne,if_pos (.inr (.inl hc))] at hone;cases hone
  ·omega
 have hend:tEnd l 0=l.length:=by
  have:=hT.root
  rw [tEnd,this];rfl
 obtain ⟨f,hf⟩:∃ f,l.length=f+1:=⟨l.length-1,by omega⟩
 have hall:l=l[0]::seg l 1 (tEnd l 0):=by
  have:=seg_all l
  rw [seg_cons hi hi] at this
  rw [hend];exact this.symm
 rw [hm] at hk
 have hnd:l[0]=⟨l[0].op,l[0].text,l[0].n⟩:=rfl
 have hpx:∀ k',k'+3*0<=k'->True:=fun _ _=>trivial
 clear hpx
 have hcs:l[0].op=7∨l[0].op=8:=by omega
 have hrd:1<l.length->Rd ws (opAt l 1) (tokT l f 1) (seg l 1 (tEnd l 1))/\∃ w t,tokT l f 1=w::t/\HdOk w:=fun h1=>⟨tok_read hT f 1 (by omega) h1 (hT.low h1 (by omega)),tok_head hT f 1 (by omega) h1 (hT.low h1 (by omega))⟩
 rw [hf,tokT,getD_at hi] at ha ⊢
 rw [hnd] at hall
 generalize l[0].op=op at *
 generalize l[0].n=n at *
 generalize l[0].text=t at *
 have hx:1<l.length->tEnd l 1=tEnd l 0->∀ k',At ws k' (tokT l f 1++[[59]])->pX ws k'=.ok (seg l 1 (tEnd l 0),k'+(tokT l f 1).length)/\isW ws (k'+(tokT l f 1).length) [59]=true:=by
  intro h1 he k' ha'
  have hr:=ha'.right
  have hlt:=isW_lt hr.yes
  have:=(hrd h1).1.zero (3*ws.length+3) k' ha'.left (by omega) (hr.no (by decide)) (hr.no (by decide)) (hr.no (by decide))
  rw [he] at this
  exact ⟨this,hr.yes⟩
 rcases hcs with rfl|rfl
 ·have hnm:=tone_word hone rfl (by decide)
  obtain rfl:=tone_n hone (by decide)
  obtain ⟨a1,a2,b3⟩:0+1<l.length/\0+1<tEnd l (0+1)/\tEnd l (0+1)=tEnd l 0:=⟨hk.1,hk.2.1,hk.2.2⟩
  simp only [show ¬ (7:Int)=1 by decide,show ¬ (7:Int)=2 by decide,show ¬ (7:Int)=3 by decide,show ¬ (7:Int)=4 by decide,show ¬ (7:Int)=5 by decide,show ¬ (7:Int)=6 by decide,if_false,if_true,Nat.zero_add] at ha ⊢
  have hw:=wd_is ha.tail
  obtain ⟨g1,g2⟩:=hx a1 b3 (k+3) (ha.tail.tail.tail.of_eq rfl (by omega))
  have h3:isW ws (k+2) [61]=true:=(ha.tail.tail.of_eq rfl (show k+1+1=k+2 by omega)).yes
  refine ⟨?_, ?_⟩
  ·rw [stmt1g ha.yes (by rw [hw];exact hnm) h3 g1 g2,hw,← hall]
   congr 2
   simp only [List.length_cons,List.length_append,List.length_nil]
   omega
  ·rw [hashW,ha.head];decide
 ·obtain rfl:=tone_t hone rfl
  obtain rfl:=tone_n hone (by decide)
  obtain ⟨a1,a2,b3⟩:0+1<l.length/\0+1<tEnd l (0+1)/\tEnd l (0+1)=tEnd l 0:=⟨hk.1,hk.2.1,hk.2.2⟩
  simp only [show ¬ (8:Int)=1 by decide,show ¬ (8:Int)=2 by decide,show ¬ (8:Int)=3 by decide,show ¬ (8:Int)=4 by decide,show ¬ (8:Int)=5 by decide,show ¬ (8:Int)=6 by decide,show ¬ (8:Int)=7 by decide,if_false,Nat.zero_add] at ha ⊢
  obtain ⟨g1,g2⟩:=hx a1 b3 k ha
  obtain ⟨w,u,e,hw⟩:=(hrd a1).2
  have hhd:(wdAt ws k).data.toList=w:=by
   rw [e,List.cons_append] at ha
   exact ha.head
  refine ⟨?_, ?_⟩
  ·rw [stmt0g (by rw [isW,ByteArray.toList_eq,hhd];simpa using hw.2.2.1) g1 g2,← hall]
   congr 2
   simp only [List.length_append,List.length_cons,List.length_nil]
   omega
  ·rw [hashW,hhd]
   have h4:=hw.2.2.2
   cases w with
   | nil=>rfl
   | cons c r =>
    have h5:c≠35:=by simpa using h4
    have h6:((35:UInt8)==c)=false:=by simpa using fun e=>h5 e.symm
    simp [Lib.hasPrefix,List.isPrefixOf,h6]
end Go.Proofs.YtddfdmopaeghnadGreatDoor
namespace Go.Proofs.YtddfdmopaeghnadGreatDoor
def spl:List UInt8->List (List UInt8)
 | []=>[[]]
 | c::r=>if c=32 then []::spl r else match spl r with
  | []=>[[c]]
  | h::t=>(c::h)::t
theorem spl_ne (s:List UInt8):∃ h t,spl s=h::t:=by
 induction s with
 | nil=>exact ⟨_,_,rfl⟩
 | cons c r ih =>
  obtain ⟨h,t,e⟩:=ih
  rw [spl,e]
  split
  ·exact ⟨_,_,rfl⟩
  ·exact ⟨_,_,rfl⟩
theorem spl_not {c:UInt8} {r h:List UInt8} {t:List (List UInt8)} (hc:c≠32) (e:spl r=h::t):spl (c::r)=(c::h)::t:=by rw [spl,if_neg hc,e]
theorem spl_no {a:List UInt8} (h:∀ c ∈ a,c≠32):spl a=[a]:=by
 induction a with
 | nil=>rfl
 | cons c r ih=>exact spl_not (h c (by simp)) (ih fun d hd=>h d (by simp [hd]))
theorem spl_hit {a b:List UInt8} (h:∀ c ∈ a,c≠32):spl (a++32::b)=a::spl b:=by
 induction a with
 | nil=>rw [List.nil_append,spl,if_pos rfl]
 | cons c r ih=>exact spl_not (h c (by simp)) (ih fun d hd=>h d (by simp [hd]))
theorem joinTail_cons (x:List UInt8) (r:List (List UInt8)):Lib.joinTail [32] (x::r)=32::Lib.join (x::r) [32]:=by
 rw [Lib.join_cons];simp [Lib.joinTail]
theorem join_more (x y:List UInt8) (r:List (List UInt8)):Lib.join (x::y::r) [32]=x++32::Lib.join (y::r) [32]:=by rw [Lib.join_cons,joinTail_cons]
theorem join_spl (s:List UInt8):Lib.join (spl s) [32]=s:=by
 induction s with
 | nil=>exact Lib.join_one _ _
 | cons c r ih =>
  obtain ⟨h,t,e⟩:=spl_ne r
  rw [e] at ih
  by_cases hc:c=32
  ·rw [spl,if_pos hc,e,join_more,ih,hc];rfl
  ·rw [spl_not hc e,Lib.join_cons,List.cons_append,← Lib.join_cons,ih]
theorem spl_join:∀ {ws:List (List UInt8)},ws≠[]->(∀ w ∈ ws,∀ c ∈ w,c≠32)->spl (Lib.join ws [32])=ws:=by
 intro ws
 induction ws with
 | nil=>intro h;exact absurd rfl h
 | cons w r ih =>
  intro _ h
  cases r with
  | nil=>rw [Lib.join_one];exact spl_no (h w (by simp))
  | cons y r=>rw [join_more,spl_hit (h w (by simp)),ih (by simp) (fun x hx=>h x (by simp [hx]))]
def full (l:List (List UInt8)):List (List UInt8):=l.filter fun w=>!w.isEmpty
def fldG:List UInt8->List UInt8->List (List UInt8)
 | cur,[]=>if cur.isEmpty then [] else [cur]
 | cur,c::r=>if c=32 then (if cur.isEmpty then fldG [] r else cur::fldG [] r) else fldG (cur++[c]) r
theorem fldG_spl:∀ (l cur h:List UInt8) (t:List (List UInt8)),spl l=h::t->fldG cur l=full ((cur++h)::t):=by
 intro l
 induction l with
 | nil =>
  intro cur h t e
  simp only [spl,List.cons.injEq] at e
  obtain ⟨rfl,rfl⟩:=e
  rw [fldG,List.append_nil]
  cases cur <;> simp [full]
 | cons c r ih =>
  intro cur h t e
  obtain ⟨h2,t2,e2⟩:=spl_ne r
  by_cases hc:c=32
  ·rw [spl,if_pos hc] at e
   obtain ⟨rfl,rfl⟩:=List.cons.inj e
   rw [fldG,if_pos hc,ih [] h2 t2 e2,List.append_nil,List.nil_append,← e2]
   cases cur <;> simp [full]
  ·rw [spl_not hc e2] at e
   obtain ⟨rfl,rfl⟩:=List.cons.inj e
   rw [fldG,if_neg hc,ih _ h2 t2 e2]
   simp
theorem fldG_all (l:List UInt8):fldG [] l=full (spl l):=by
 obtain ⟨h,t,e⟩:=spl_ne l
 rw [fldG_spl l [] h t e,e,List.nil_append]
def asc (s:ByteArray):Prop:=∀ c ∈ s.data.toList,c.toNat<128
theorem asc_at {s:ByteArray} (h:asc s) {i:Nat} (hi:i<s.size):s[i].toNat<128:=h _ (by simp [ByteArray.getElem_eq_getElem_data])
theorem spans_asc {s:ByteArray} (ha:asc s):∀ (f pos:Nat) (st:Option Nat) (acc:List (Nat × Nat)),s.size<=pos+f->pos<=s.size->(∀ a,st=some a->a<pos) ->
  acc.map (fun p=>Lib.pieceU s.data.toList p.1 p.2)++fldG (Lib.openPiece s.data.toList st pos) (s.data.toList.drop pos)=(Lib.closeSpans s (Lib.spansFromP blankR s f pos st acc)).map (fun p=>Lib.pieceU s.data.toList p.1 p.2):=by
 have hsz:s.data.toList.length=s.size:=by simp
 intro f
 induction f with
 | zero =>
  intro pos st acc h hp hst
  obtain rfl:pos=s.size:=by omega
  rw [List.drop_eq_nil_of_le (by omega)]
  cases st with
  | none=>simp [Lib.spansFromP,Lib.closeSpans,Lib.openPiece,fldG]
  | some a =>
   have:=Lib.pieceU_ne s.data.toList a s.size (hst a rfl) (by omega)
   simp [Lib.spansFromP,Lib.closeSpans,Lib.openPiece,fldG,this]
 | succ f ih =>
  intro pos st acc h hp hst
  by_cases hlt:pos<s.size
  ·have hd:Utf8.decode s pos=((s[pos]'hlt).toNat,1):=decode_ascii s pos hlt (asc_at ha hlt)
   have hdr:s.data.toList.drop pos=s[pos]::s.data.toList.drop (pos+1):=by
    rw [List.drop_eq_getElem_cons (by omega)];rfl
   rw [hdr]
   by_cases hc:s[pos]=32
   ·have hb:blankR (s[pos]).toNat=true:=by rw [hc];rfl
    cases st with
    | none =>
     have g:=ih (pos+1) none acc (by omega) (by omega) (fun a h=>by cases h)
     simp only [Lib.openPiece] at g ⊢
     rw [fldG,if_pos hc,if_pos (show ([]:List UInt8).isEmpty=true from rfl),g]
     simp [Lib.spansFromP,hlt,hd,hb]
    | some a =>
     have hpn:=Lib.pieceU_ne s.data.toList a pos (hst a rfl) (by omega)
     have g:=ih (pos+1) none (acc++[(a,pos)]) (by omega) (by omega) (fun a h=>by cases h)
     simp only [Lib.openPiece] at g ⊢
     rw [fldG,if_pos hc,if_neg (by simpa using hpn)]
     rw [List.map_append,List.append_assoc] at g
     simp only [List.map_cons,List.map_nil,List.cons_append,List.nil_append] at g
     rw [g]
     simp [Lib.spansFromP,hlt,hd,hb]
   ·have hb:blankR (s[pos]).toNat=false:=by
     unfold blankR
     rw [beq_eq_false_iff_ne]
     intro e
     exact hc (UInt8.toNat_inj.1 e)
    cases st with
    | none =>
     have g:=ih (pos+1) (some pos) acc (by omega) (by omega) (fun a h=>by cases h;omega)
     have e:Lib.pieceU s.data.toList pos (pos+1)=[s[pos]]:=by
      unfold Lib.pieceU
      rw [hdr,show pos+1-pos=1 by omega];rfl
     simp only [Lib.openPiece] at g ⊢
     rw [e] at g
     rw [fldG,if_neg hc,List.nil_append,g]
     simp [Lib.spansFromP,hlt,hd,hb]
    | some a =>
     have g:=ih (pos+1) (some a) acc (by omega) (by omega) (fun b h=>by cases h;have:=hst a rfl;omega)
     have e:=Lib.pieceU_grow s.data.toList a pos 1 (Nat.le_of_lt (hst a rfl))
     rw [hdr] at e
     simp only [Lib.openPiece] at g ⊢
     rw [← e] at g
     rw [fldG,if_neg hc]
     simp only [List.take_succ_cons,List.take_zero] at g
     rw [g]
     simp [Lib.spansFromP,hlt,hd,hb]
  ·obtain rfl:pos=s.size:=by omega
   rw [List.drop_eq_nil_of_le (by omega),Lib.spansFromP_end _ s _ _ st acc hlt]
   cases st with
   | none=>simp [Lib.closeSpans,Lib.openPiece,fldG]
   | some a =>
    have:=Lib.pieceU_ne s.data.toList a s.size (hst a rfl) (by omega)
    simp [Lib.closeSpans,Lib.openPiece,fldG,this]
theorem fields_data {s:ByteArray} (ha:asc s):(Lib.goFieldsP blankR s).map (·.data.toList)=full (spl s.data.toList):=by
 have h:=spans_asc ha s.size 0 none [] (by omega) (Nat.zero_le _) (fun a h=>by cases h)
 simp only [Lib.openPiece,List.map_nil,List.nil_append,List.drop_zero] at h
 rw [← fldG_all,h]
 unfold Lib.goFieldsP Lib.spansOfP
 rw [List.map_map]
 refine List.map_congr_left fun p _=>?_
 show (s.extract p.1 p.2).data.toList=_
 rw [Lib.extract_data];rfl
theorem fldW_data {s:ByteArray} {c:UInt8} {r:List UInt8} (hs:s.data.toList=c::r) (ha:asc s):(fldW s).map (·.data.toList)=full (spl r):=by
 have e:(s.extract 1 s.size).data.toList=r:=by rw [tail_data,hs];rfl
 unfold fldW
 rw [fields_data (fun c hc=>by rw [e] at hc;exact ha c (by rw [hs];simp [hc])),e]
theorem tailN_data (s:ByteArray):∀ (n m:Nat),s.size<=m+n->m<=s.size->(tailN s m).map (·.data.toList)=spl (s.data.toList.drop m):=by
 have hsz:s.data.toList.length=s.size:=by simp
 have hno:∀ m i a,(∀ c ∈ a,c≠32)->s.data.toList.drop m=a++s.data.toList.drop i->i=m+a.length->noSp s m i:=by
  intro m i a ha he hi x h1 h2
  have hx:s.data.toList[x]?=a[x-m]?:=by
   have:s.data.toList[x]?=(s.data.toList.drop m)[x-m]?:=by rw [List.getElem?_drop];congr 1;omega
   rw [this,he,List.getElem?_append_left (by omega)]
  rw [hx]
  intro e
  exact ha 32 (List.mem_of_getElem? e) rfl
 intro n
 induction n with
 | zero =>
  intro m h hm
  obtain rfl:m=s.size:=by omega
  rw [tail_miss (fun x h1 h2=>by omega)]
  simp only [List.map_cons,List.map_nil,tail_data]
  rw [List.drop_eq_nil_of_le (by omega)];rfl
 | succ n ih =>
  intro m h hm
  by_cases hb:(32:UInt8) ∈ s.data.toList.drop m
  ·obtain ⟨a,b,e,hna⟩:=List.eq_append_cons_of_mem hb
   have hna2:∀ c ∈ a,c≠32:=fun c hc e=>hna (e▸hc)
   have hl:s.size-m=a.length+b.length+1:=by
    have:=congrArg List.length e
    rw [List.length_drop,List.length_append,List.length_cons,hsz] at this;omega
   have hi:m+a.length<s.size:=by omega
   have e2:s.data.toList.drop (m+a.length)=32::b:=by rw [← List.drop_drop,e,List.drop_left]
   have e3:s.data.toList.drop (m+a.length+1)=b:=by rw [← List.drop_drop,e2];rfl
   have hc:s[m+a.length]=32:=by
    have:s.data.toList[m+a.length]?=some 32:=by
     have h5:(s.data.toList.drop (m+a.length))[0]?=some 32:=by rw [e2];rfl
     rwa [List.getElem?_drop,Nat.add_zero] at h5
    rw [List.getElem?_eq_getElem (by omega)] at this
    injection this
   rw [tail_hit (Nat.le_add_right _ _) hi (hno m _ a hna2 (by rw [e2,e]) rfl) hc,List.map_cons,ih (m+a.length+1) (by omega) (by omega),e3,e,spl_hit hna2]
   congr 1
   rw [Lib.extract_data,show m+a.length-m=a.length by omega,e,List.take_left]
  ·have hna:∀ c ∈ s.data.toList.drop m,c≠32:=fun c hc e=>hb (e▸hc)
   rw [tail_miss (hno m s.size _ hna (by rw [List.drop_eq_nil_of_le (i:=s.size) (by omega),List.append_nil]) (by rw [List.length_drop];omega))]
   simp only [List.map_cons,List.map_nil,tail_data]
   rw [spl_no hna]
theorem noteL_data {t:ByteArray}:(noteL t).map (·.data.toList)=if t.data.toList=[] then [] else spl t.data.toList:=by
 by_cases h:t.data.toList=[]
 ·rw [if_pos h,noteL,if_pos (by rw [ByteArray.toList_eq];exact h)];rfl
 ·rw [if_neg h,noteL_tail (by rw [ByteArray.toList_eq];exact h),tailN_data t t.size 0 (by omega) (Nat.zero_le _),List.drop_zero]
theorem bytes_inj {a b:List ByteArray} (h:a.map (·.data.toList)=b.map (·.data.toList)):a=b:=by
 induction a generalizing b with
 | nil =>
  cases b with
  | nil=>rfl
  | cons y b=>simp at h
 | cons x a ih =>
  cases b with
  | nil=>simp at h
  | cons y b =>
   simp only [List.map_cons,List.cons.injEq] at h
   rw [ih h.2,ByteArray.ext (Array.toList_inj.1 h.1)]
theorem joinW_noteL (t:ByteArray):joinW (noteL t)=t:=by
 apply ByteArray.ext
 apply Array.toList_inj.1
 show Lib.join ((noteL t).map (·.data.toList)) [32]=_
 rw [noteL_data]
 split
 ·rename_i h;rw [h];rfl
 ·exact join_spl _
def lineK (ws:List ByteArray):List UInt8:=35::32::Lib.join (ws.map (·.data.toList)) [32]
theorem full_id {l:List (List UInt8)} (h:∀ w ∈ l,w≠[]):full l=l:=by
 unfold full
 rw [List.filter_eq_self]
 intro w hw
 have:=h w hw
 cases w with
 | nil=>exact absurd rfl this
 | cons c r=>rfl
theorem mem_join {ws:List (List UInt8)} {c:UInt8}:c ∈ Lib.join ws [32]->c=32∨∃ w ∈ ws,c ∈ w:=by
 induction ws with
 | nil=>intro h;cases h
 | cons w r ih =>
  intro h
  cases r with
  | nil=>rw [Lib.join_one] at h;exact .inr ⟨w,by simp,h⟩
  | cons y r =>
   rw [join_more] at h
   rcases List.mem_append.1 h with h|h
   ·exact .inr ⟨w,by simp,h⟩
   ·rcases List.mem_cons.1 h with h|h
    ·exact .inl h
    ·rcases ih h with h|⟨x,hx,h⟩
     ·exact .inl h
     ·exact .inr ⟨x,by simp [hx],h⟩
theorem line_bytes {ws:List ByteArray} (h:∀ w ∈ ws,wordF w=true):∀ c ∈ lineK ws,32<=c.toNat/\c.toNat<=126:=by
 intro c hc
 unfold lineK at hc
 rcases List.mem_cons.1 hc with rfl|hc
 ·decide
 rcases List.mem_cons.1 hc with rfl|hc
 ·decide
 rcases mem_join hc with rfl|⟨x,hx,hc⟩
 ·decide
 ·obtain ⟨y,hy,rfl⟩:=List.mem_map.1 hx
  have:=(wordF_facts (h y hy)).2.2 c hc
  omega
theorem trim_last {l:List UInt8} {c:UInt8} (h:c≠32):trimR (l++[c])=l++[c]:=by
 unfold trimR
 rw [List.reverse_append]
 have hb:blank c=false:=by simpa [blank] using h
 simp [hb]
theorem join_last {ws:List (List UInt8)} (h0:ws≠[]) (h:∀ w ∈ ws,w≠[]/\∀ c ∈ w,c≠32):∃ l c,Lib.join ws [32]=l++[c]/\c≠32:=by
 induction ws with
 | nil=>exact absurd rfl h0
 | cons w r ih =>
  cases r with
  | nil =>
   obtain ⟨h1,h2⟩:=h w (by simp)
   refine ⟨w.dropLast,w.getLast h1, ?_,h2 _ (List.getLast_mem h1)⟩
   rw [Lib.join_one,List.dropLast_concat_getLast]
  | cons y r =>
   obtain ⟨l,c,e,hc⟩:=ih (by simp) (fun x hx=>h x (by simp [hx]))
   exact ⟨w++32::l,c,by rw [join_more,e];simp,hc⟩
theorem trim_line {ws:List ByteArray} {x:List UInt8} (h:∀ w ∈ ws,wordF w=true) (h0:ws≠[]) (hj:Lib.join (ws.map (·.data.toList)) [32]=x):trimR (35::32::x)=35::32::x:=by
 obtain ⟨l,c,e,hc⟩:=join_last (ws:=ws.map (·.data.toList)) (by simpa using h0) (by
  intro w hw
  obtain ⟨y,hy,rfl⟩:=List.mem_map.1 hw
  refine ⟨(wordF_facts (h y hy)).1,fun c hc=>?_⟩
  have:=(wordF_facts (h y hy)).2.2 c hc
  rintro rfl
  simp at this)
 rw [← hj,e]
 exact trim_last (l:=35::32::l) hc
theorem fldW_line {s:ByteArray} {ws:List ByteArray} (hs:s.data.toList=lineK ws) (h0:ws≠[]) (h:∀ w ∈ ws,wordF w=true):fldW s=ws:=by
 apply bytes_inj
 have ha:asc s:=fun c hc=>by
  rw [hs] at hc
  have:=line_bytes h c hc
  omega
 rw [fldW_data hs ha]
 have e:spl (32::Lib.join (ws.map (·.data.toList)) [32])=[]::ws.map (·.data.toList):=by
  rw [spl,if_pos rfl,spl_join (by simpa using h0) (by
   intro w hw c hc
   obtain ⟨y,hy,rfl⟩:=List.mem_map.1 hw
   have:=(wordF_facts (h y hy)).2.2 c hc
   rintro rfl
   simp at this)]
 rw [e]
 have e2:full ([]::ws.map (·.data.toList))=full (ws.map (·.data.toList)):=rfl
 rw [e2]
 exact full_id (by
  intro w hw
  obtain ⟨y,hy,rfl⟩:=List.mem_map.1 hw
  exact (wordF_facts (h y hy)).1)
theorem fldW_bare {s:ByteArray} (hs:s.data.toList=[35]):fldW s=[]:=by
 apply bytes_inj
 have ha:asc s:=fun c hc=>by
  rw [hs,List.mem_singleton] at hc
  subst hc;decide
 rw [fldW_data hs ha];rfl
def NoteK (t:ByteArray) (tk:List (List UInt8)):Prop:=(noteL t=[]/\tk=[[35]])∨∃ gs:List (List ByteArray),gs≠[]/\(∀ g ∈ gs,g≠[])/\gs.flatten=noteL t/\tk=gs.map lineK
theorem hash_line (ws:List ByteArray) {s:ByteArray} (h:s.data.toList=lineK ws):hashW s=true:=by rw [hashW,h];rfl
theorem notes_lines {ws:List ByteArray}:∀ (gs:List (List ByteArray)) (f:Nat) (out:List ByteArray) (k:Nat),(∀ g ∈ gs,g≠[])->(∀ g ∈ gs,∀ w ∈ g,wordF w=true)->At ws k (gs.map lineK)->hashW (wdAt ws (k+gs.length))=false->gs.length<=f->notesP ws f out k=(out++gs.flatten,k+gs.length):=by
 intro gs
 induction gs with
 | nil =>
  intro f out k _ _ _ hn _
  cases f with
  | zero=>simp [notesP]
  | succ f =>
   rw [notesP,if_neg (by rw [show k=k+([]:List (List ByteArray)).length from rfl,hn];decide)]
   simp
 | cons g gs ih =>
  intro f out k h0 hw ha hn hf
  simp only [List.length_cons] at hf
  obtain ⟨f,rfl⟩:∃ f',f=f'+1:=⟨f-1,by omega⟩
  have hh:=ha.head
  rw [notesP,if_pos (hash_line g hh),fldW_line hh (h0 g (by simp)) (hw g (by simp)),ih f _ (k+1) (fun x hx=>h0 x (by simp [hx])) (fun x hx=>hw x (by simp [hx])) ha.tail (by rw [← hn];congr 2;simp only [List.length_cons];omega) (by omega)]
  simp only [List.flatten_cons,List.length_cons,List.append_assoc,Prod.mk.injEq,true_and]
  omega
theorem at_len {ws:List ByteArray} {k:Nat} {tk:List (List UInt8)} (h:At ws k tk) (hne:∀ w ∈ tk,w≠[]) (h0:tk≠[]):k+tk.length<=ws.length:=by
 have hp:0<tk.length:=List.length_pos_iff.2 h0
 have:=h (tk.length-1) (by omega)
 have hw:(wdAt ws (k+(tk.length-1))).toList≠[]:=by
  rw [ByteArray.toList_eq,this,List.getD_eq_getElem?_getD,List.getElem?_eq_getElem (by omega)]
  exact hne _ (List.getElem_mem _)
 have:=wdAt_lt hw
 omega
theorem note_read {ws:List ByteArray} {t:ByteArray} {tk:List (List UInt8)} (h0:treeOne 9 t 0=0) (hK:NoteK t tk) {k:Nat} (ha:At ws k tk) (hn:hashW (wdAt ws (k+tk.length))=false) :
  noteP ws k=([⟨9,t,0⟩],k+tk.length)/\hashW (wdAt ws k)=true:=by
 have hwf:wordsF (noteL t)=0:=by
  unfold treeOne at h0
  split at h0
  ·cases h0
  ·split at h0
   ·cases h0
   ·simpa using h0
 have hws:=(wordsF_facts hwf).2
 rcases hK with ⟨h1,rfl⟩|⟨gs,g0,g1,g2,rfl⟩
 ·have hh:=ha.head
  have hlt:k<ws.length:=at_len ha (by intro w hw;rw [List.mem_singleton.1 hw];decide) (by simp)
  have hhs:hashW (wdAt ws k)=true:=by rw [hashW,hh];rfl
  obtain ⟨f,hf⟩:∃ f,ws.length=f+1:=⟨ws.length-1,by omega⟩
  have e:notesP ws ws.length [] k=([],k+1):=by
   rw [hf,notesP,if_pos hhs,fldW_bare hh]
   cases f with
   | zero=>rfl
   | succ f =>
    have hn2:hashW (wdAt ws (k+1))=false:=hn
    rw [notesP,if_neg (by rw [hn2];decide)];rfl
  refine ⟨?_,hhs⟩
  rw [noteP,e,← h1,joinW_noteL];rfl
 ·have hl:=at_len ha (by
   intro w hw
   obtain ⟨g,hg,rfl⟩:=List.mem_map.1 hw
   simp [lineK]) (by simpa using g0)
  rw [List.length_map] at hl hn ⊢
  have e:=notes_lines gs ws.length [] k g1 (fun g hg w hw=>hws w (by rw [← g2];exact List.mem_flatten.2 ⟨g,hg,hw⟩)) ha hn (by omega)
  rw [List.nil_append,g2] at e
  refine ⟨by rw [noteP,e,joinW_noteL], ?_⟩
  cases gs with
  | nil=>exact absurd rfl g0
  | cons g gs=>exact hash_line g ha.head
end Go.Proofs.YtddfdmopaeghnadGreatDoor
namespace Go.Proofs.YtddfdmopaeghnadGreatDoor
def brK (po ko:Int) (second:Bool):Nat:=if boundF po ko second=true then 2 else 0
def brL (lv:Nat) (o:Int):Nat:=if (lv=1/\o=5)∨(lv=2/\(o=5∨o=6)) then 2 else 0
def sumK (ks:List (Int × Nat)):Nat:=(ks.map (·.2)).sum
def ownK (op:Int) (ks:List (Int × Nat)):Nat :=
 if op=1∨op=2 then 1
 else if op=3 then 3+(sumK ks+(ks.length-1))
 else if op=4 then 2+(sumK ks+(ks.length-1))
 else if op=5∨op=6 then match ks with
  | a::b::_=>1+(a.2+brK op a.1 false)+(b.2+brK op b.1 true)
  | _=>1
 else if op=7 then 4+sumK ks
 else 1+sumK ks
def cntS:List Nd->List (Int × Nat)
 | []=>[]
 | d::r=>(d.op,ownK d.op ((cntS r).take (manyF d.op d.n).toNat))::(cntS r).drop (manyF d.op d.n).toNat
def Cx (lv:Nat) (x:List Nd) (c:Nat):Prop:=∃ o n,(∀ r,cntS (x++r)=(o,n)::cntS r)/\n+brL lv o<=c
theorem Cx.more {lv c c':Nat} {x:List Nd} (h:Cx lv x c) (hc:c<=c'):Cx lv x c':=let ⟨o,n,h1,h2⟩:=h;⟨o,n,h1,by omega⟩
end Go.Proofs.YtddfdmopaeghnadGreatDoor
namespace Go.Proofs.YtddfdmopaeghnadGreatDoor
def progP (ws:List ByteArray):Nat->List (List Nd)->Nat->Except Nat (List (List Nd))
 | 0,out,_=>.ok out
 | j+1,out,k=>if k<ws.length then
   if hashW (wdAt ws k)=true then progP ws j (out++[(noteP ws k).1]) (noteP ws k).2
   else match stmtP ws k with
    | .error e=>.error e
    | .ok (x,k')=>progP ws j (out++[x]) k'
  else .ok out
theorem stmt_goes (ws:List ByteArray):Goes ws (stmtP ws):=by
 intro k hk
 cases wl:isW ws k [108,101,116] with
 | false =>
  obtain ⟨h1,h2⟩:=pX_goes ws k hk
  cases hp:pX ws k with
  | error x=>rw [stmt0b wl hp];exact ⟨fun x k' e=>(by cases e),fun e he=>by cases he;exact h2 _ hp⟩
  | ok r =>
   obtain ⟨x,k2⟩:=r
   obtain ⟨g1,g2,g3,g4⟩:=h1 x k2 hp
   cases w59:isW ws k2 [59] with
   | false=>rw [stmt0c wl hp w59];exact ⟨fun x k' e=>(by cases e),fun e he=>by cases he;exact g2⟩
   | true =>
    have:=isW_lt w59
    rw [stmt0g wl hp w59]
    exact rq49
 | true =>
  have hlt:=isW_lt wl
  cases hn:nameF (wdAt ws (k+1)) with
  | false=>rw [stmt1n wl hn];exact ⟨fun x k' e=>(by cases e),fun e he=>by cases he;exact hlt⟩
  | true =>
   have hlt2:=nameW_lt hn
   cases w61:isW ws (k+2) [61] with
   | false=>rw [stmt1m wl hn w61];exact ⟨fun x k' e=>(by cases e),fun e he=>by cases he;exact hlt2⟩
   | true =>
    have hlt3:=isW_lt w61
    obtain ⟨h1,h2⟩:=pX_goes ws (k+3) hlt3
    cases hp:pX ws (k+3) with
    | error x=>rw [stmt1b wl hn w61 hp];exact ⟨fun x k' e=>(by cases e),fun e he=>by cases he;exact h2 _ hp⟩
    | ok r =>
     obtain ⟨x,k2⟩:=r
     obtain ⟨g1,g2,g3,g4⟩:=h1 x k2 hp
     cases w59:isW ws k2 [59] with
     | false=>rw [stmt1c wl hn w61 hp w59];exact ⟨fun x k' e=>(by cases e),fun e he=>by cases he;exact g2⟩
     | true =>
      have:=isW_lt w59
      rw [stmt1g wl hn w61 hp w59]
      exact rq49
theorem notes_goes (ws:List ByteArray):∀ (f:Nat) (out:List ByteArray) (k:Nat),k<=ws.length->k<=(notesP ws f out k).2/\(notesP ws f out k).2<=ws.length:=by
 intro f
 induction f with
 | zero=>intro out k hk;exact ⟨Nat.le_refl _,hk⟩
 | succ f ih =>
  intro out k hk
  rw [notesP]
  cases hh:hashW (wdAt ws k) with
  | false=>rw [if_neg (by decide)];exact ⟨Nat.le_refl _,hk⟩
  | true =>
   have hlt:=hashW_lt hh
   rw [if_pos rfl]
   obtain ⟨h1,h2⟩:=ih (out++fldW (wdAt ws k)) (k+1) hlt
   exact ⟨by omega,h2⟩
end Go.Proofs.YtddfdmopaeghnadGreatDoor
namespace Go.Proofs.YtddfdmopaeghnadGreatDoor
def TxB (m:Nat) (x:List Nd):Prop:=∀ d ∈ x,d.text.size<=m
theorem TxB.one {m:Nat} {d:Nd} (h:d.text.size<=m):TxB m [d]:=by
 intro z hz;rw [List.mem_singleton.1 hz];exact h
theorem TxB.cons {m:Nat} {d:Nd} {x:List Nd} (h:d.text.size<=m) (hx:TxB m x):TxB m (d::x):=by
 intro z hz
 rcases List.mem_cons.1 hz with rfl|hz
 ·exact h
 ·exact hx z hz
theorem TxB.app {m:Nat} {x y:List Nd} (hx:TxB m x) (hy:TxB m y):TxB m (x++y):=by
 intro z hz
 rcases List.mem_append.1 hz with hz|hz
 ·exact hx z hz
 ·exact hy z hz
def WdB (ws:List ByteArray):Prop:=∀ j,(wdAt ws j).size<=60000
def PartB (part:Nat->PrR):Prop:=∀ k x k',part k=.ok (x,k')->TxB 60000 x
theorem chainP_b {ws:List ByteArray} {op:Int} {sg:List UInt8} {part:Nat->PrR} (h:PartB part):∀ (f:Nat) (out:List Nd) (k:Nat) (x:List Nd) (k':Nat),TxB 60000 out->chainP ws op sg part f out k=.ok (x,k')->TxB 60000 x:=by
 intro f
 induction f with
 | zero=>intro out k x k' ho e;rw [chainP] at e;cases e;exact ho
 | succ f ih =>
  intro out k x k' ho e
  rw [chainP] at e
  split at e
  ·cases hp:part (k+1) with
   | error e2=>rw [hp] at e;cases e
   | ok r =>
    obtain ⟨y,k2⟩:=r
    rw [hp] at e
    exact ih _ _ _ _ (TxB.cons (by simp) (ho.app (h _ _ _ hp))) e
  ·cases e;exact ho
theorem chainS_b {ws:List ByteArray} {op:Int} {sg:List UInt8} {part:Nat->PrR} (h:PartB part):PartB (chainS ws op sg part):=by
 intro k x k' e
 rw [chainS] at e
 cases hp:part k with
 | error e2=>rw [hp] at e;cases e
 | ok r =>
  obtain ⟨y,k2⟩:=r
  rw [hp] at e
  exact chainP_b h _ _ _ _ _ (h _ _ _ hp) e
theorem manyP_b {ws:List ByteArray} {ed:List UInt8} {sum:Nat->PrR} (h:PartB sum):∀ (f n:Nat) (out:List Nd) (k n':Nat) (x:List Nd) (k':Nat),TxB 60000 out->manyP ws ed sum f n out k=.ok (n',x,k')->TxB 60000 x:=by
 intro f
 induction f with
 | zero=>intro n out k n' x k' ho e;rw [manyP] at e;cases e;exact ho
 | succ f ih =>
  intro n out k n' x k' ho e
  rw [manyP] at e
  split at e
  ·cases e;exact ho
  ·split at e
   ·cases e
   ·split at e
    ·cases e
    ·rename_i hp
     exact ih _ _ _ _ _ _ (ho.app (h _ _ _ hp)) e
theorem pE_b {ws:List ByteArray} (hw:WdB ws):∀ (f lv:Nat),PartB (pE ws f lv):=by
 intro f
 induction f with
 | zero=>intro lv k x k' e;rw [pE] at e;cases e
 | succ f ih =>
  intro lv k x k' e
  rw [pE] at e
  split at e
  ·exact chainS_b (ih 1) _ _ _ e
  split at e
  ·exact chainS_b (ih 2) _ _ _ e
  split at e
  ·split at e
   ·cases e
   ·rename_i hp
    split at e
    ·cases e;exact ih _ _ _ _ hp
    ·cases e
  split at e
  ·split at e
   ·cases e
   ·rename_i hp
    cases e
    exact TxB.cons (by simp) (manyP_b (ih 0) _ _ _ _ _ _ _ (fun _ h=>by cases h) hp)
  split at e
  ·cases e;exact TxB.one (by simp)
  split at e
  ·cases e
  split at e
  ·split at e
   ·cases e
   ·rename_i hp
    cases e
    exact TxB.cons (hw _) (manyP_b (ih 0) _ _ _ _ _ _ _ (fun _ h=>by cases h) hp)
  ·cases e;exact TxB.one (hw _)
theorem stmtP_b {ws:List ByteArray} (hw:WdB ws):PartB (stmtP ws):=by
 intro k x k' e
 rw [stmtP] at e
 split at e
 ·split at e
  ·cases e
  split at e
  ·cases e
  split at e
  ·cases e
  ·rename_i hp
   split at e
   ·cases e;exact TxB.cons (hw _) (pE_b hw _ _ _ _ _ hp)
   ·cases e
 ·split at e
  ·cases e
  ·rename_i hp
   split at e
   ·cases e;exact TxB.cons (by simp) (pE_b hw _ _ _ _ _ hp)
   ·cases e
theorem notes_cost {ws:List ByteArray} (hw:WdB ws):∀ (f:Nat) (out:List ByteArray) (k:Nat),costL (notesP ws f out k).1<=costL out+60000*f:=by
 intro f
 induction f with
 | zero=>intro out k;exact Nat.le_refl _
 | succ f ih =>
  intro out k
  rw [notesP]
  split
  ·rename_i hh
   have h1:=ih (out++fldW (wdAt ws k)) (k+1)
   have h2:=fld_cost hh
   have h3:=hw k
   rw [costL_app] at h1
   omega
  ·exact Nat.le_add_right _ _
theorem noteP_b {ws:List ByteArray} (hw:WdB ws) (hf:ws.length<=60000) (k:Nat):TxB 3600000000 (noteP ws k).1:=by
 have h1:=notes_cost hw ws.length [] k
 have h0:costL ([]:List ByteArray)=0:=rfl
 have h2:=joinW_size (notesP ws ws.length [] k).1
 refine TxB.one ?_
 show (joinW _).size<=_
 omega
theorem note_goes {ws:List ByteArray} {k:Nat} (h:hashW (wdAt ws k)=true):k<(noteP ws k).2/\(noteP ws k).2<=ws.length:=by
 have hlt:=hashW_lt h
 obtain ⟨f,hf⟩:∃ f,ws.length=f+1:=⟨ws.length-1,by omega⟩
 have h1:=notes_goes ws f ([]++fldW (wdAt ws k)) (k+1) hlt
 have e:(noteP ws k).2=(notesP ws f ([]++fldW (wdAt ws k)) (k+1)).2:=by
  show (notesP ws ws.length [] k).2=_
  rw [hf,notesP,if_pos h]
 rw [e]
 exact ⟨by omega,h1.2⟩
theorem progP_end {ws:List ByteArray} {j k:Nat} {out:List (List Nd)} (h:ws.length<=k):progP ws j out k=.ok out:=by
 cases j with
 | zero=>rfl
 | succ j=>rw [progP,if_neg (by omega)]
theorem progP_note {ws:List ByteArray} {j k:Nat} {out:List (List Nd)} (h:hashW (wdAt ws k)=true):progP ws (j+1) out k=progP ws j (out++[(noteP ws k).1]) (noteP ws k).2:=by
 rw [progP,if_pos (hashW_lt h),if_pos h]
theorem progP_bad {ws:List ByteArray} {j k e:Nat} {out:List (List Nd)} (hk:k<ws.length) (h:hashW (wdAt ws k)=false) (hs:stmtP ws k=.error e):progP ws (j+1) out k=.error e:=by
 rw [progP,if_pos hk,if_neg (by rw [h];decide),hs]
theorem progP_stmt {ws:List ByteArray} {j k k':Nat} {out:List (List Nd)} {x:List Nd} (hk:k<ws.length) (h:hashW (wdAt ws k)=false) (hs:stmtP ws k=.ok (x,k')):progP ws (j+1) out k=progP ws j (out++[x]) k':=by
 rw [progP,if_pos hk,if_neg (by rw [h];decide),hs]
end Go.Proofs.YtddfdmopaeghnadGreatDoor
namespace Go.Proofs.YtddfdmopaeghnadGreatDoor
def PcK (t:List Nd) (tk:List (List UInt8)):Prop:=(opAt t 0≠9/\tk=tokT t t.length 0)∨∃ x,t=[⟨9,x,0⟩]/\NoteK x tk
theorem hash_end {ws:List ByteArray} {k:Nat} (h:ws.length<=k):hashW (wdAt ws k)=false:=by
 have:wdAt ws k=.empty:=by simp [wdAt,List.getD_eq_getElem?_getD,h]
 rw [this];rfl
theorem lvK_ne {lv:Nat} {o:Int} {x:List (List UInt8)} (h:∀ w ∈ x,w≠[]/\w.head?≠some 35):∀ w ∈ lvK lv o x,w≠[]/\w.head?≠some 35:=by
 intro w hw
 unfold lvK at hw
 split at hw
 ·rcases List.mem_cons.1 hw with rfl|hw
  ·simp
  rcases List.mem_append.1 hw with hw|hw
  ·exact h w hw
  ·rw [List.mem_singleton.1 hw];simp
 ·exact h w hw
theorem rq51 {P:Prop} (h:P:=by
 rcases List.mem_cons.1 hw with rfl|hw
 ·exact hsg _ (by decide)
 rcases List.mem_append.1 hw with hw|hw
 ·exact hkk _ _ _ (Nat.lt_succ_self i) hk w hw
 ·rw [List.mem_singleton.1 hw];exact hsg _ (by decide)):P:=h
theorem tok_ne {l:List Nd} (hT:Tr l) (h9:∀ i,(hi:i<l.length)->l[i].op≠9):∀ f i:Nat,l.length<=i+f->i<l.length->∀ w ∈ tokT l f i,w≠[]/\w.head?≠some 35:=by
 intro f
 induction f with
 | zero=>intro i h1 h2;omega
 | succ f ih =>
  intro i h1 h2 w hw
  have hk:=hT.kidsP h2
  have hm:(manyL l).getD i 0=(manyF l[i].op l[i].n).toNat:=manyL_at h2 rfl
  have hone:=hT.one _ (List.getElem_mem h2)
  have h9i:=h9 i h2
  have hop:1<=l[i].op/\l[i].op<=9:=by
   exact rq55
  rw [hm] at hk
  have hnm:∀ t:ByteArray,nameF t=true->t.data.toList≠[]/\t.data.toList.head?≠some 35:=fun t h=>by
   have h1:=(hd_name h).2.2.2
   refine ⟨fun e=>?_,h1⟩
   have:=(name_facts h).1
   have h2:t.data.toList.length=t.size:=by simp
   rw [e] at h2;simp at h2;omega
  have hsg:∀ c:UInt8,c≠35->([c]:List UInt8)≠[]/\([c]:List UInt8).head?≠some 35:=fun c hc=>⟨by simp,by simpa using hc⟩
  have ihk:∀ b,i<b->b<l.length->∀ w ∈ tokT l f b,w≠[]/\w.head?≠some 35:=fun b hb hl=>ih b (by omega) hl
  have hkk:∀ (m a z:Nat),i<a->KidsP l a m z->∀ w ∈ kidsK (tokT l f) (tEnd l) a m,w≠[]/\w.head?≠some 35:=by
   intro m
   induction m with
   | zero=>intro a z _ _ w hw;cases hw
   | succ m im =>
    intro a z ha hz w hw
    obtain ⟨z1,z2,z3⟩:=hz
    rw [kidsK] at hw
    split at hw
    ·exact ihk a ha z1 w hw
    ·rcases List.mem_append.1 hw with hw|hw
     ·exact ihk a ha z1 w hw
     rcases List.mem_cons.1 hw with rfl|hw
     ·exact hsg _ (by decide)
     ·exact im _ _ (by omega) z3 w hw
  rw [tokT,getD_at h2] at hw
  generalize l[i].op=op at *
  generalize l[i].n=n at *
  generalize l[i].text=t at *
  have hcs:op=1∨op=2∨op=3∨op=4∨op=5∨op=6∨op=7∨op=8:=by omega
  rcases hcs with rfl|rfl|rfl|rfl|rfl|rfl|rfl|rfl
  ·obtain ⟨n0,n1⟩:=tone_num hone
   simp only [if_true,List.mem_singleton] at hw
   subst hw
   refine ⟨fun e=>?_,(hd_num n0 n1).2.2.2⟩
   have:=(itoa_len6 n0 n1).1
   rw [e] at this;simp at this
  ·simp only [show ¬ (2:Int)=1 by decide,if_false,if_true,List.mem_singleton] at hw
   subst hw
   exact hnm _ (tone_word hone rfl (by decide))
  ·rw [show manyF 3 n=n from rfl] at hk
   simp only [show ¬ (3:Int)=1 by decide,show ¬ (3:Int)=2 by decide,if_false,if_true] at hw
   rcases List.mem_cons.1 hw with rfl|hw
   ·exact hnm _ (tone_word hone rfl (by decide))
   exact rq51
  ·rw [show manyF 4 n=n from rfl] at hk
   simp only [show ¬ (4:Int)=1 by decide,show ¬ (4:Int)=2 by decide,show ¬ (4:Int)=3 by decide,if_false,if_true] at hw
   exact rq51
  ·rw [show (manyF 5 n).toNat=2 from rfl] at hk
   have e1:=ihk (i+1) (by omega) hk.1
   have e2:=ihk (tEnd l (i+1)) (by have:=hk.2.1;omega) hk.2.2.1
   simp only [show ¬ (5:Int)=1 by decide,show ¬ (5:Int)=2 by decide,show ¬ (5:Int)=3 by decide,show ¬ (5:Int)=4 by decide,if_false,if_true,kidK_1,kidK_2] at hw
   rcases List.mem_append.1 hw with hw|hw
   ·exact e1 w hw
   rcases List.mem_cons.1 hw with rfl|hw
   ·exact hsg _ (by decide)
   ·exact lvK_ne e2 w hw
  ·rw [show (manyF 6 n).toNat=2 from rfl] at hk
   have e1:=ihk (i+1) (by omega) hk.1
   have e2:=ihk (tEnd l (i+1)) (by have:=hk.2.1;omega) hk.2.2.1
   simp only [show ¬ (6:Int)=1 by decide,show ¬ (6:Int)=2 by decide,show ¬ (6:Int)=3 by decide,show ¬ (6:Int)=4 by decide,show ¬ (6:Int)=5 by decide,if_false,if_true,kidK_3,kidK_4] at hw
   rcases List.mem_append.1 hw with hw|hw
   ·exact lvK_ne e1 w hw
   rcases List.mem_cons.1 hw with rfl|hw
   ·exact hsg _ (by decide)
   ·exact lvK_ne e2 w hw
  ·rw [show (manyF 7 n).toNat=1 from rfl] at hk
   have e1:=ihk (i+1) (by omega) hk.1
   simp only [show ¬ (7:Int)=1 by decide,show ¬ (7:Int)=2 by decide,show ¬ (7:Int)=3 by decide,show ¬ (7:Int)=4 by decide,show ¬ (7:Int)=5 by decide,show ¬ (7:Int)=6 by decide,if_false,if_true] at hw
   rcases List.mem_cons.1 hw with rfl|hw
   ·simp
   rcases List.mem_cons.1 hw with rfl|hw
   ·exact hnm _ (tone_word hone rfl (by decide))
   rcases List.mem_cons.1 hw with rfl|hw
   ·exact hsg _ (by decide)
   rcases List.mem_append.1 hw with hw|hw
   ·exact e1 w hw
   ·rw [List.mem_singleton.1 hw];exact hsg _ (by decide)
  ·rw [show (manyF 8 n).toNat=1 from rfl] at hk
   have e1:=ihk (i+1) (by omega) hk.1
   simp only [show ¬ (8:Int)=1 by decide,show ¬ (8:Int)=2 by decide,show ¬ (8:Int)=3 by decide,show ¬ (8:Int)=4 by decide,show ¬ (8:Int)=5 by decide,show ¬ (8:Int)=6 by decide,show ¬ (8:Int)=7 by decide,if_false] at hw
   rcases List.mem_append.1 hw with hw|hw
   ·exact e1 w hw
   ·rw [List.mem_singleton.1 hw];exact hsg _ (by decide)
theorem tree_no9 {l:List Nd} (h:treeF l=0) (hp:0<l.length) (h9:l[0].op≠9):∀ i,(hi:i<l.length)->l[i].op≠9:=fun i hi=>by
 by_cases hz:i=0
 ·subst hz;exact h9
 ·have:=(Tr.of_check h).low hi (by omega);omega
theorem stmt_ne {l:List Nd} (h:treeF l=0) (hp:0<l.length) (h9:l[0].op≠9):∀ w ∈ tokT l l.length 0,w≠[]:=fun w hw=>(tok_ne (Tr.of_check h) (tree_no9 h hp h9) l.length 0 (by omega) hp w hw).1
theorem stmt_some {l:List Nd} (h:treeF l=0) (hp:0<l.length):tokT l l.length 0≠[]:=by
 obtain ⟨f,hf⟩:∃ f,l.length=f+1:=⟨l.length-1,by omega⟩
 have hT:=Tr.of_check h
 have h1:=hT.tops hp
 rw [decide_eq_true rfl] at h1
 have h7:=of_decide_eq_true h1
 rw [hf,tokT,getD_at hp]
 rw [if_neg (by omega),if_neg (by omega),if_neg (by omega),if_neg (by omega),if_neg (by omega),if_neg (by omega)]
 split <;> simp
def ApartP:List (List Nd)->Prop
 | t::u::r=>¬ (opAt t 0=9/\opAt u 0=9)/\ApartP (u::r)
 | _=>True
theorem prog_read {ws:List ByteArray}:∀ (q:List (List Nd × List (List UInt8))) (j k:Nat) (out:List (List Nd)),(∀ z ∈ q,treeF z.1=0/\PcK z.1 z.2)->ApartP (q.map (·.1))->At ws k (q.flatMap (·.2))->k+(q.flatMap (·.2)).length=ws.length->q.length<=j ->
  progP ws j out k=.ok (out++q.map (·.1))/\∀ z r,q=z::r->hashW (wdAt ws k)=decide (opAt z.1 0=9):=by
 intro q
 induction q with
 | nil =>
  intro j k out _ _ _ hl _
  refine ⟨?_,fun z r e=>by cases e⟩
  rw [progP_end (by simpa using Nat.le_of_eq hl.symm)];simp
 | cons z q ih =>
  intro j k out hz hap ha hl hj
  obtain ⟨h0,hK⟩:=hz z (by simp)
  simp only [List.length_cons] at hj
  obtain ⟨j,rfl⟩:∃ j',j=j'+1:=⟨j-1,by omega⟩
  rw [List.flatMap_cons] at ha hl
  rw [List.length_append] at hl
  have hap2:ApartP (q.map (·.1)):=by
   cases q with
   | nil=>trivial
   | cons y q=>exact hap.2
  have hrest:=fun out'=>ih j (k+z.2.length) out' (fun y hy=>hz y (by simp [hy])) hap2 ha.right (by omega) (by omega)
  rcases hK with ⟨h9,hk⟩|⟨x,hx,hN⟩
  ·have hp:=tree_pos h0
   rw [opAt_of hp] at h9
   have hat:=ha.left
   rw [hk] at hat
   obtain ⟨s1,s2⟩:=stmt_read h0 hp h9 hat
   rw [← hk] at s1
   have hlt:k<ws.length:=by
    have:=at_len hat (fun w hw=>by
     rw [List.mem_iff_getElem] at hw
     obtain ⟨i,hi,rfl⟩:=hw
     intro e
     have h5:=stmt_ne h0 hp h9 _ (List.getElem_mem hi)
     exact h5 e) (stmt_some h0 hp)
    have h6:0<(tokT z.1 z.1.length 0).length:=List.length_pos_iff.2 (stmt_some h0 hp)
    omega
   refine ⟨?_,fun y r e=>by cases e;rw [s2,opAt_of hp,decide_eq_false h9]⟩
   rw [progP_stmt hlt s2 s1,(hrest _).1]
   simp
  ·have h1:treeOne 9 x 0=0:=by
    have:=(Tr.of_check h0).one ⟨9,x,0⟩ (by rw [hx];simp)
    exact this
   have hnx:hashW (wdAt ws (k+z.2.length))=false:=by
    cases q with
    | nil=>exact hash_end (by simp at hl;omega)
    | cons y q =>
     rw [(hrest []).2 y q rfl,decide_eq_false]
     intro e
     refine hap.1 ⟨?_,e⟩
     show opAt z.1 0=9
     rw [hx];rfl
   obtain ⟨n1,n2⟩:=note_read h1 hN ha.left hnx
   refine ⟨?_,fun y r e=>by cases e;rw [n2,hx];rfl⟩
   rw [progP_note n2,n1]
   simp only
   rw [(hrest _).1,← hx]
   simp
def nTok (t:List Nd):Nat:=if opAt t 0=9 then 0 else (tokT t t.length 0).length
end Go.Proofs.YtddfdmopaeghnadGreatDoor
namespace Go.Proofs.YtddfdmopaeghnadGreatDoor
open Go.RowKit
structure PsSt (g:Nat) (W:Option Addr) (cw:Nat) (ws:List ByteArray) (P:Option Addr) (cp:Nat) (ps:List Nat) (k:Nat) (w:World):Prop where
 blk:w.heap[g]?=some (.cells #[.slice W ws.length cw,.slice P ps.length cp,.int .i64 (k:Nat)] 105 (0,0))
 txs:Txs w g W ws
 pls:Sl w g 1 P ps.length (ps.map fun p=>.int .i64 (p:Nat))
 len:ps.length=ws.length+1
 few:ws.length<=60000
theorem wdAt_at {ws:List ByteArray} {k:Nat} (h:k<ws.length):wdAt ws k=ws[k]:=by simp [wdAt,List.getD_eq_getElem?_getD,h]
theorem wdAt_end {ws:List ByteArray} {k:Nat} (h:ws.length<=k):wdAt ws k=.empty:=by simp [wdAt,List.getD_eq_getElem?_getD,h]
theorem ps_below (w:World) (g j:Nat) (v:Value):Below g w (w.setCell ⟨g,j,none⟩ v):=(Below.refl g w).setCell (p:=⟨g,j,none⟩) (Nat.le_refl _) v
theorem ps_grown (w:World) (g j:Nat) (v:Value):w.grownBy (w.setCell ⟨g,j,none⟩ v) (some g):=⟨rfl,rfl,rfl,by simp [World.setCell],fun k _ hn=>Below.heap_setCell _ _ _ _ (fun e=>hn (by rw [e]))⟩
theorem ps_row {w w':World} (row:Option Nat) (hb:Below w.heap.size w w'):w.grownBy w' row:=⟨hb.os,hb.tape,hb.output,hb.size,fun k hk _=>hb.block k hk⟩
section
variable {g cw cp k:Nat} {W P:Option Addr} {ws:List ByteArray} {ps:List Nat} {w w':World}
theorem PsSt.lt (h:PsSt g W cw ws P cp ps k w):g<w.heap.size:=(Array.getElem?_eq_some_iff.1 h.blk).1
theorem PsSt.past (h:PsSt g W cw ws P cp ps k w) (hb:Below w.heap.size w w'):PsSt g W cw ws P cp ps k w' :=
 ⟨(hb.block g h.lt).trans h.blk,⟨h.txs.1.below hb (Nat.le_of_lt h.lt),h.txs.2⟩,h.pls.below hb (Nat.le_of_lt h.lt),h.len,h.few⟩
theorem PsSt.cells (h:PsSt g W cw ws P cp ps k w):w.cell? ⟨g,0,none⟩=some (.slice W ws.length cw)/\w.cell? ⟨g,1,none⟩=some (.slice P ps.length cp)/\w.cell? ⟨g,2,none⟩=some (.int .i64 (k:Nat))/\w.frozen? ⟨g,2,none⟩=false:=by
 refine ⟨?_, ?_, ?_,Lib.frozen_of_heap h.blk 2⟩ <;> rw [Lib.cell_of_heap h.blk] <;> rfl
theorem PsSt.set (h:PsSt g W cw ws P cp ps k w) (j:Nat) {v:Int} (hv:v=j):PsSt g W cw ws P cp ps j (w.setCell ⟨g,2,none⟩ (.int .i64 v)):=by
 subst hv
 exact ⟨by simp [World.setCell,Array.getElem?_modify,h.blk],⟨h.txs.1.below (ps_below _ _ _ _) (Nat.le_refl _),h.txs.2⟩,h.pls.below (ps_below _ _ _ _) (Nat.le_refl _),h.len,h.few⟩
theorem PsSt.word (h:PsSt g W cw ws P cp ps k w) (hk:k<ws.length):∃ b off,W=some ⟨b,off,none⟩/\b<g/\w.cell? ⟨b,off+k,none⟩=some (.string (wdAt ws k)):=by
 obtain ⟨b,off,u,e,hb,hu,hc⟩:=h.txs.1.one (k:=k) hk
 refine ⟨b,off,e,hb, ?_⟩
 rw [wdAt_at hk,hc]
 rw [List.getElem?_map,List.getElem?_eq_getElem hk] at hu
 simpa using hu.symm
theorem PsSt.size (h:PsSt g W cw ws P cp ps k w) (j:Nat):(wdAt ws j).size<=maxLen:=by
 rcases Nat.lt_or_ge j ws.length with hj|hj
 ·rw [wdAt_at hj];exact h.txs.2.2 _ (List.getElem_mem _)
 ·rw [wdAt_end hj];exact Nat.zero_le _
theorem PsSt.place (h:PsSt g W cw ws P cp ps k w) (hk:k<=ws.length):∃ b off,P=some ⟨b,off,none⟩/\b<g/\w.cell? ⟨b,off+k,none⟩=some (.int .i64 (ps.getD k 0:Nat)):=by
 have hk2:k<ps.length:=by have:=h.len;omega
 obtain ⟨b,off,u,e,hb,hu,hc⟩:=h.pls.one (k:=k) hk2
 refine ⟨b,off,e,hb, ?_⟩
 rw [hc,List.getD_eq_getElem?_getD,List.getElem?_eq_getElem hk2]
 rw [List.getElem?_map,List.getElem?_eq_getElem hk2] at hu
 simpa using hu.symm
end
def PsBad (g:Nat) (ps:List Nat) (x:Nat) (w:World) (e:Ending) (w':World):Prop:=e=.panicked [{ v:=.iface 150 (.agg #[.int .i64 (ps.getD x 0:Nat)]),recovered:=false }]/\w.grownBy w' (some g)
def PsOk (g:Nat) (W:Option Addr) (cw:Nat) (ws:List ByteArray) (P:Option Addr) (cp:Nat) (ps:List Nat) (k:Nat) (v:Value) (w:World) (e:Ending) (w':World):Prop :=
 e=.returned v/\PsSt g W cw ws P cp ps k w'/\w.grownBy w' (some g)
theorem rq54 {P:Prop} (h:P:=by
 go_wp2
 go_quiet (fail)
 go_wp2
 go_ret
 exact ⟨rfl,by first|exact below_undrewN (below_undrewN (Below.refl _ _))|exact below_undrewN (Below.refl _ _)⟩):P:=h
theorem peek_any {g cw cp k:Nat} {W P:Option Addr} {ws:List ByteArray} {ps:List Nat} (w:World) (hs:PsSt g W cw ws P cp ps k w) (hk:k<=ws.length) :
  Calls Tryz.prog 80 #[.pointer (some ⟨g,0,none⟩)] w (Ret w (.string (wdAt ws k))):=by
 obtain ⟨c0,c1,c2,f2⟩:=hs.cells
 have hg:=hs.lt
 have hf:=hs.few
 by_cases hlt:k<ws.length
 ·obtain ⟨b,off,rfl,hb,hw⟩:=hs.word hlt
  generalize wdAt ws k=s at *
  generalize ws.length=n at *
  clear hs c1 f2
  have q2:decide ((k:Int)<(n:Int))=true:=decide_eq_true (by omega)
  go_enter Tryz.func80,Tryz.ntmps80
  go_wp2
  go_quiet (fail)
  exact rq54
 ·rw [wdAt_end (by omega)]
  generalize ws.length=n at *
  clear hs c1 f2
  have q2:decide ((k:Int)<(n:Int))=false:=decide_eq_false (by omega)
  go_enter Tryz.func80,Tryz.ntmps80
  exact rq54
theorem take_any {g cw cp k:Nat} {W P:Option Addr} {ws:List ByteArray} {ps:List Nat} (w:World) (hs:PsSt g W cw ws P cp ps k w) (hk:k<=ws.length) :
  Calls Tryz.prog 133 #[.pointer (some ⟨g,0,none⟩)] w (PsOk g W cw ws P cp ps (k+1) (.string (wdAt ws k)) w):=by
 have HP:=hd_ (peek_any w hs hk)
 have HS:=hd_ hs
 have hf:=hs.few
 generalize wdAt ws k=s at *
 generalize ws.length=n at *
 clear hs
 go_enter Tryz.func133,Tryz.ntmps133
 go_wp2_with (go_at_call 80;refine HP.out.mono ?_;rintro e w1 ⟨rfl,hB⟩;have hs1:=HS.out.past hB;obtain ⟨-,-,c2,f2⟩:=hs1.cells;have HM:=hd_ hs1;have HG:Hid (w.grownBy w1 (some g)):=hd_ (ps_row _ hB);clear hB hs1)
 go_ret
 exact ⟨rfl,HM.out.set (k+1) (by go_num),grown_trans HG.out (ps_grown _ _ _ _)⟩
theorem fail_any {g cw cp k:Nat} {W P:Option Addr} {ws:List ByteArray} {ps:List Nat} (w:World) (hs:PsSt g W cw ws P cp ps k w) (hk:k<=ws.length) :
  Calls Tryz.prog 184 #[.pointer (some ⟨g,0,none⟩)] w (PsBad g ps k w):=by
 obtain ⟨c0,c1,c2,f2⟩:=hs.cells
 have hg:=hs.lt
 have hf:=hs.few
 have hl:=hs.len
 obtain ⟨b,off,rfl,hb,hw⟩:=hs.place hk
 obtain ⟨x,hx⟩:∃ x,x=ps.getD k 0:=⟨_,rfl⟩
 rw [← hx] at hw
 have HX:=hd_ hx
 clear hx
 have q1:(0:Int)<=(k:Int):=by omega
 have q2:(k:Int)<(ps.length:Int):=by omega
 have q3:k<ps.length:=by omega
 clear hs c0 f2 hl
 generalize ps.length=n at *
 go_enter Tryz.func184,Tryz.ntmps184
 go_wp2
 go_region_dies
 all_goals (try go_wp2)
 all_goals exact ⟨rfl,by rw [HX.out],ps_row _ (Below.refl _ _).drew⟩
theorem must_ok {g cw cp k:Nat} {W P:Option Addr} {ws:List ByteArray} {ps:List Nat} (s:ByteArray) (w:World) (hs:PsSt g W cw ws P cp ps k w) (hk:k<=ws.length) (h:((wdAt ws k).toList==s.toList)=true) :
  Calls Tryz.prog 137 #[.pointer (some ⟨g,0,none⟩),.string s] w (PsOk g W cw ws P cp ps (k+1) (.tuple #[]) w):=by
 have HP:=hd_ (peek_any w hs hk)
 have HS:=hd_ hs
 have hf:=hs.few
 generalize wdAt ws k=t at *
 generalize ws.length=n at *
 clear hs
 go_enter Tryz.func137,Tryz.ntmps137
 go_wp2_with (go_at_call 80;refine HP.out.mono ?_;rintro e w1 ⟨rfl,hB⟩;have hs1:=HS.out.past hB;obtain ⟨-,-,c2,f2⟩:=hs1.cells;have HM:=hd_ hs1;have HG:Hid (w.grownBy w1 (some g)):=hd_ (ps_row _ hB);clear hB hs1)
 go_end0
 exact ⟨rfl,HM.out.set (k+1) (by go_num),grown_trans HG.out (ps_grown _ _ _ _)⟩
theorem must_bad {g cw cp k:Nat} {W P:Option Addr} {ws:List ByteArray} {ps:List Nat} (s:ByteArray) (w:World) (hs:PsSt g W cw ws P cp ps k w) (hk:k<=ws.length) (h:((wdAt ws k).toList==s.toList)=false) :
  Calls Tryz.prog 137 #[.pointer (some ⟨g,0,none⟩),.string s] w (PsBad g ps k w):=by
 have HP:=hd_ (peek_any w hs hk)
 have HF:=hd_ (fun w' (h':PsSt g W cw ws P cp ps k w')=>fail_any w' h' hk)
 have HS:=hd_ hs
 have hf:=hs.few
 generalize wdAt ws k=t at *
 clear hs hf hk
 go_enter Tryz.func137,Tryz.ntmps137
 go_wp2_with (first
  | (go_at_call 80;refine HP.out.mono ?_;rintro e w1 ⟨rfl,hB⟩;have HM:=hd_ (HS.out.past hB);have HG:Hid (w.grownBy w1 (some g)):=hd_ (ps_row _ hB);clear hB)
  | (go_at_call 184;refine (HF.out _ HM.out).mono ?_;rintro e w2 ⟨rfl,hG2⟩;have HG:=hd_ (grown_trans HG.out hG2);clear hG2))
 exact ⟨rfl,by trivial,HG.out⟩
theorem pname_ok {g cw cp k:Nat} {W P:Option Addr} {ws:List ByteArray} {ps:List Nat} (w:World) (hs:PsSt g W cw ws P cp ps k w) (hk:k<=ws.length) (h:nameF (wdAt ws k)=true) :
  Calls Tryz.prog 136 #[.pointer (some ⟨g,0,none⟩)] w (PsOk g W cw ws P cp ps (k+1) (.string (wdAt ws k)) w):=by
 have HP:=hd_ (peek_any w hs hk)
 have HT:=hd_ (fun w' (h':PsSt g W cw ws P cp ps k w')=>take_any w' h' hk)
 have HN:=hd_ (fun w'=>name_is h (hs.size k) w')
 have HS:=hd_ hs
 generalize wdAt ws k=s at *
 clear hs hk h
 go_enter Tryz.func136,Tryz.ntmps136
 go_wp2_with (first
  | (go_at_call 80;refine HP.out.mono ?_;rintro e w1 ⟨rfl,hB⟩;have HM:=hd_ (HS.out.past hB);have HG:Hid (w.grownBy w1 (some g)):=hd_ (ps_row _ hB);clear hB)
  | (go_at_call 143;refine (HN.out _).mono ?_;rintro e w2 ⟨rfl,rfl⟩)
  | (go_at_call 133;refine (HT.out _ HM.out).mono ?_;rintro e w3 ⟨rfl,hs3,hG3⟩;have HM:=hd_ hs3;have HG:=hd_ (grown_trans HG.out hG3);clear hs3 hG3))
 go_ret
 exact ⟨rfl,HM.out,HG.out⟩
theorem pname_bad {g cw cp k:Nat} {W P:Option Addr} {ws:List ByteArray} {ps:List Nat} (w:World) (hs:PsSt g W cw ws P cp ps k w) (hk:k<=ws.length) (h:nameF (wdAt ws k)=false) :
  Calls Tryz.prog 136 #[.pointer (some ⟨g,0,none⟩)] w (PsBad g ps k w):=by
 have HP:=hd_ (peek_any w hs hk)
 have HF:=hd_ (fun w' (h':PsSt g W cw ws P cp ps k w')=>fail_any w' h' hk)
 have HN:=hd_ (fun w'=>name_is h (hs.size k) w')
 have HS:=hd_ hs
 generalize wdAt ws k=s at *
 clear hs hk h
 go_enter Tryz.func136,Tryz.ntmps136
 go_wp2_with (first
  | (go_at_call 80;refine HP.out.mono ?_;rintro e w1 ⟨rfl,hB⟩;have HM:=hd_ (HS.out.past hB);have HG:Hid (w.grownBy w1 (some g)):=hd_ (ps_row _ hB);clear hB)
  | (go_at_call 143;refine (HN.out _).mono ?_;rintro e w2 ⟨rfl,rfl⟩)
  | (go_at_call 184;refine (HF.out _ HM.out).mono ?_;rintro e w3 ⟨rfl,hG3⟩;have HG:=hd_ (grown_trans HG.out hG3);clear hG3))
 exact ⟨rfl,by trivial,HG.out⟩
end Go.Proofs.YtddfdmopaeghnadGreatDoor
namespace Go.Proofs.YtddfdmopaeghnadGreatDoor
def wordsB (s:ByteArray):List ByteArray:=wordBs (lexWs s)
def placesN (s:ByteArray):List Nat:=(lexWs s).map (·.1)++[s.size]
theorem wordsB_len (s:ByteArray):(wordsB s).length=(lexWs s).length:=by simp [wordsB,wordBs]
theorem placesN_len (s:ByteArray):(placesN s).length=(wordsB s).length+1:=by simp [placesN,wordsB,wordBs]
def parseF (s:ByteArray):Int × Nat × List (List Nd) :=
 if (lexE s).1≠0 then ((lexE s).1,(lexE s).2,[])
 else match progP (wordsB s) (wordsB s).length [] 0 with
  | .error x=>(5,(placesN s).getD x 0,[])
  | .ok l=>if (progF l).2≠0 then ((progF l).2,0,[]) else (0,0,l)
theorem parseF_lex {s:ByteArray} (h:(lexE s).1≠0):parseF s=((lexE s).1,(lexE s).2,[]):=by rw [parseF,if_pos h]
theorem parseF_bad {s:ByteArray} {x:Nat} (h:(lexE s).1=0) (hp:progP (wordsB s) (wordsB s).length [] 0=.error x):parseF s=(5,(placesN s).getD x 0,[]):=by rw [parseF,if_neg (by simp [h]),hp]
theorem parseF_tree {s:ByteArray} {l:List (List Nd)} (h:(lexE s).1=0) (hp:progP (wordsB s) (wordsB s).length [] 0=.ok l) (hq:(progF l).2≠0):parseF s=((progF l).2,0,[]):=by
 rw [parseF,if_neg (by simp [h]),hp]
 simp only
 rw [if_pos hq]
theorem parseF_ok {s:ByteArray} {l:List (List Nd)} (h:(lexE s).1=0) (hp:progP (wordsB s) (wordsB s).length [] 0=.ok l) (hq:(progF l).2=0):parseF s=(0,0,l):=by
 rw [parseF,if_neg (by simp [h]),hp]
 simp only
 rw [if_neg (by simp [hq])]
theorem wordsB_at {s:ByteArray} {j:Nat} (h:j<(lexWs s).length):wdAt (wordsB s) j=⟨((lexWs s)[j]).2.toArray⟩:=by
 rw [wdAt_at (by rw [wordsB_len];exact h)]
 simp [wordsB,wordBs]
theorem wordsB_wdB {s:ByteArray} (hs:s.size<=60000):WdB (wordsB s):=by
 intro j
 rcases Nat.lt_or_ge j (lexWs s).length with h|h
 ·rw [wordsB_at h]
  have:=(lexWs_len hs _ (List.getElem_mem h)).1
  simpa [ByteArray.size] using this
 ·rw [wdAt_end (by rw [wordsB_len];exact h)];exact Nat.zero_le _
theorem wordOk_dig {w:List UInt8} (h:WordOk w) {c:UInt8} {r:List UInt8} (e:w=c::r) (hc:digB c=true):w.all digB=true/\w.length<=6:=by
 obtain ⟨h1,h2,h3⟩:=dig_nb hc
 have hl:=h.lex 0
 subst e
 cases hb:(firstW (c::r)).2 with
 | false=>rw [lexL_bad h1 hb] at hl;simp at hl
 | true =>
  rw [lexL_word h1 hb] at hl
  have hh:trimR ((c::r).take (firstW (c::r)).1)=c::r:=by
   have:=congrArg (fun x=>x.1.head?.map (·.2)) hl
   simpa using this
  have hn:(c::r).length<=(firstW (c::r)).1:=by
   have a1:=trimR_le ((c::r).take (firstW (c::r)).1)
   rw [hh,List.length_take] at a1
   omega
  have hf:firstW (c::r)=(runB digB (c::r),decide (runB digB (c::r)<=6)&&(decide (runB digB (c::r)=1)||!(c==48))):=by
   rw [firstW_cons,if_neg (by rw [h3];decide),if_pos hc]
  rw [hf] at hb hn
  simp only [Bool.and_eq_true,decide_eq_true_eq] at hb
  refine ⟨List.all_eq_true.2 (fun z hz=>runB_mono (c::r) (c::r).length hn z (by rw [List.take_length];exact hz)), ?_⟩
  have:=hb.1
  simp only at hn
  omega
theorem wordsB_dgW (s:ByteArray):DgW (wordsB s):=by
 intro j hj
 have hlt:=digW_lt hj
 rw [wordsB_len] at hlt
 rw [wordsB_at hlt] at hj ⊢
 have hw:=lex_words _ 0 s.data.toList (Nat.le_refl _) _ (List.getElem_mem (l:=lexWs s) hlt)
 generalize ((lexWs s)[j]).2=w at *
 unfold digW at hj
 simp only at hj
 cases w with
 | nil=>simp at hj
 | cons c r =>
  simp only at hj
  obtain ⟨g1,g2⟩:=wordOk_dig hw rfl hj
  exact ⟨g1,by simpa [ByteArray.size] using g2⟩
end Go.Proofs.YtddfdmopaeghnadGreatDoor
namespace Go.Proofs.YtddfdmopaeghnadGreatDoor
def toB (tk:List (List UInt8)):List ByteArray:=tk.map fun w=>⟨w.toArray⟩
theorem at_toB (tk:List (List UInt8)):At (toB tk) 0 tk:=by
 intro j hj
 rw [Nat.zero_add,wdAt_at (by simpa [toB] using hj)]
 simp [toB,List.getD_eq_getElem?_getD,hj]
theorem isNote_op {u:List Nd}:isNote u=decide (opAt u 0=9):=by
 cases u with
 | nil=>rfl
 | cons d r=>rfl
theorem progK_facts:∀ (l:List (List Nd)) (i:Nat) (pn:Bool),(progK l i pn).2=0->(∀ u ∈ l,treeF u=0)/\ApartP l/\∀ u r,l=u::r->¬ (pn=true/\opAt u 0=9):=by
 intro l
 induction l with
 | nil=>intro i pn _;exact ⟨by simp,trivial,fun u r e=>by cases e⟩
 | cons t l ih =>
  intro i pn h
  rw [progK] at h
  by_cases h1:treeF t=0
  ·rw [if_neg (by simp [h1])] at h
   by_cases h2:(pn&&isNote t)=true
   ·rw [if_pos h2] at h;cases h
   ·rw [if_neg h2] at h
    obtain ⟨g1,g2,g3⟩:=ih _ _ h
    refine ⟨fun u hu=>?_, ?_,fun u r e=>?_⟩
    ·rcases List.mem_cons.1 hu with rfl|hu
     ·exact h1
     ·exact g1 u hu
    ·cases l with
     | nil=>trivial
     | cons u r=>exact ⟨fun ⟨a,b⟩=>g3 u r rfl ⟨by rw [isNote_op];exact decide_eq_true a,b⟩,g2⟩
    ·cases e
     rintro ⟨rfl,b⟩
     exact h2 (by rw [isNote_op,decide_eq_true b];rfl)
  ·rw [if_pos h1] at h;exact absurd h h1
theorem progF_facts {p:List (List Nd)} (h:(progF p).2=0):p.length<=20/\(∀ u ∈ p,treeF u=0)/\ApartP p:=by
 unfold progF at h
 split at h
 ·cases h
 ·obtain ⟨h1,h2,_⟩:=progK_facts p 0 false h
  exact ⟨by omega,h1,h2⟩
def lineL (u:List Nd):ByteArray:=if opAt u 0=9 then (let x:=(u.getD 0 ⟨0,.empty,0⟩).text;if x.data.toList=[] then ⟨#[35]⟩ else ⟨#[35,32]⟩++x) else textX u u.length 0
theorem lx_stmt {u:List Nd} (h0:treeF u=0) (h9:opAt u 0≠9) {s:ByteArray} (hs:∀ x:D,x.ok->x.enc=docT u u.length 0->(x.flat=some s∨∃ dp w r,x.lay dp w=.ok (s,r))):Lx false (tokT u u.length 0) (s++⟨#[10]⟩:ByteArray).data.toList:=by
 have hT:=Tr.of_check h0
 have hp:=tree_pos h0
 rw [opAt_of hp] at h9
 have h1:=hT.tops hp
 rw [decide_eq_true rfl] at h1
 obtain ⟨x,x1,x2,x3,x4⟩:=(docT_tok hT u.length 0 (by omega) hp h9).2 (of_decide_eq_true h1)
 rw [ByteArray.data_append,Array.toList_append]
 have hnl:Lx false [] [10]:=Lx.skip (by decide)
 have hm:Lx false (tokT u u.length 0) s.data.toList:=by
  rcases hs x x1 x2 with h|⟨dp,w,r,h⟩
  ·exact (x4 s h).1
  ·exact (x3 dp w r s h).1
 have:=hm.app hnl (fun e=>by cases e)
 rwa [List.append_nil] at this
theorem lx_note {x:ByteArray} (h1:treeOne 9 x 0=0):∃ tk,NoteK x tk/\Lx false tk ((if x.data.toList=[] then ⟨#[35]⟩ else ⟨#[35,32]⟩++x)++⟨#[10]⟩:ByteArray).data.toList:=by
 have hwf:wordsF (noteL x)=0:=by
  unfold treeOne at h1
  split at h1
  ·cases h1
  ·split at h1
   ·cases h1
   ·simpa using h1
 have hws:=(wordsF_facts hwf).2
 have hd:=noteL_data (t:=x)
 rw [ByteArray.data_append,Array.toList_append]
 by_cases hx:x.data.toList=[]
 ·rw [if_pos hx] at hd ⊢
  refine ⟨[[35]],.inl ⟨by simpa using hd,rfl⟩,Lx.note (w:=[]) (by simp) (by decide)⟩
 ·rw [if_neg hx] at hd ⊢
  have hn:noteL x≠[]:=fun e=>by
   rw [e] at hd
   obtain ⟨h,t,e2⟩:=spl_ne x.data.toList
   rw [e2] at hd;cases hd
  have hj:Lib.join ((noteL x).map (·.data.toList)) [32]=x.data.toList:=by rw [hd];exact join_spl _
  have hlk:lineK (noteL x)=35::32::x.data.toList:=by rw [lineK,hj]
  refine ⟨[lineK (noteL x)],.inr ⟨[noteL x],by simp,by simpa using hn,by simp,rfl⟩, ?_⟩
  rw [hlk,ByteArray.data_append,Array.toList_append]
  have hb:=line_bytes hws
  rw [hlk] at hb
  refine Lx.note (w:=32::x.data.toList) (fun c hc=>?_) ?_
  ·have:=hb c (by simp only [List.mem_cons] at hc ⊢;exact .inr hc)
   simp only [prB,Bool.and_eq_true,decide_eq_true_eq];exact this
  ·exact trim_line hws hn hj
theorem line_lx {u:List Nd} (h0:treeF u=0):∃ tk,PcK u tk/\Lx false tk (lineL u++⟨#[10]⟩:ByteArray).data.toList:=by
 by_cases h9:opAt u 0=9
 ·obtain ⟨x,rfl,h1⟩:=tree_note h0 h9
  obtain ⟨tk,t1,t2⟩:=lx_note h1
  exact ⟨tk,.inr ⟨x,rfl,t1⟩,t2⟩
 ·refine ⟨tokT u u.length 0,.inl ⟨h9,rfl⟩, ?_⟩
  rw [lineL,if_neg h9]
  refine lx_stmt h0 h9 fun x x1 x2=>.inl ?_
  have hp:=tree_pos h0
  have h9':=h9
  rw [opAt_of hp] at h9'
  obtain ⟨y,y1,y2,y3,_⟩:=docT_flat (Tr.of_check h0) u.length 0 (by omega) hp h9'
  have:x=y:=D.enc_inj (r:=[]) (s:=[]) x1 y1 (by rw [x2,y2])
  rw [this];exact y3
end Go.Proofs.YtddfdmopaeghnadGreatDoor
namespace Go.Proofs.YtddfdmopaeghnadGreatDoor
open Go.RowKit
theorem swrite_9 {B g c:Nat} {A:Option Addr} {l:List Nd} {i:Nat} {t s:ByteArray} {n:Int} {w:World} (hs:SySt B g A c l i s w) (hi:i<l.length) (hnd:l[i]=Nd.mk 9 t n) (h40:l.length<=40) (hsz:s.size<=100*i+50) (ht8:t.size<=2000) {LT:ByteArray} (hLT:⟨(Lib.trimRightB (⟨#[35,32]⟩++t:ByteArray).data.toList 32).toArray⟩=LT) :
  Calls Tryz.prog 61 #[.pointer (some ⟨g,0,none⟩)] w (SyTo B g A c l (i+1) (s++LT) w):=by
 have k1:IntKind.i64.wrap ((i:Int)+1)=(i:Int)+1:=IntWalk.i64_in _ (by omega)
 have hcat0:∀ w',(Op.stringOp .add ⟨#[35,32]⟩ t).run Tryz.prog w'=.ok (.string (⟨#[35,32]⟩++t)) w':=fun w'=>run_string_add_sum w' _ t (by show 2+t.size<=_;omega)
 have hz2:(⟨#[35,32]⟩++t:ByteArray).size=2+t.size:=by rw [ByteArray.size_append];rfl
 have hlt2:LT.size<=2002:=by
  rw [← hLT]
  have:=trimR_le (⟨#[35,32]⟩++t:ByteArray).data.toList
  rw [trim_lib]
  have h5:(⟨#[35,32]⟩++t:ByteArray).data.toList.length=(⟨#[35,32]⟩++t:ByteArray).size:=Array.length_toList
  show (trimR _).length<=_
  omega
 have HT:=hd_ (fun w'=>(Tryz.strings_TrimRight_one (⟨#[35,32]⟩++t) 32 (by decide) w' (by rw [hz2];omega)).mono fun e u (h:e=_/\u=w')=>(⟨h.1,h.2.symm⟩:e=_/\w'=u))
 rw [hLT] at HT
 clear hLT
 generalize hCT:(⟨#[35,32]⟩++t:ByteArray)=CT at *
 clear hCT hz2
 obtain ⟨b,off,op,t',n',rfl,hb,hnd',hts,d1,d2,d3⟩:=hs.nds.node (Below.refl _ _) hi
 rw [hnd] at hnd'
 cases hnd'
 obtain ⟨hBg,hgl⟩:=hs.lt
 obtain ⟨c0,c1,f1⟩:=hs.cells
 have HS:=hd_ hs
 have hbw:b<w.heap.size:=by omega
 clear hs hnd
 go_enter Tryz.func61,Tryz.ntmps61
 go_wp2
 go_region
 go_upto_region 2 with (fail)
 obtain ⟨h,hh⟩:∃ h,h=w.heap.size:=⟨_,rfl⟩
 rw [← hh]
 refine mk_named (fun wy=>SyN B g h (some ⟨b,off,none⟩) c l (i+1) s 9 t n w wy) ?named ?_
 case named=>exact SyN.mk_ HS.out hh (by omega)
 clear hh c0 c1 f1 d1 d2 d3 HS
 rintro wy hy
 obtain ⟨y0,y1,y2⟩:=hy.cells
 have HM:=hd_ hy.st;have HBX:=hd_ hy.nd;have HB:=hd_ hy.bel;have HO:=hd_ hy.bes;have hz:=hy.sz;have hlt:=mkheap_lt hy.nd;have hgh:=hy.lt
 clear hy k1
 go_wp2_with fail
 go_region_held3 (fun w'=>w'.cell? ⟨h,0,none⟩=some (.int .i64 9)/\w'.cell? ⟨h,1,none⟩=some (.string t)/\w'.cell? ⟨h,2,none⟩=some (.int .i64 n)) (exact ⟨y0,y1,y2⟩)
  (first|(go_at_call 76;refine (HT.out _).mono ?_;rintro e w' ⟨rfl,rfl⟩)|(go_at_call 35;refine (sst_write LT (HM.out.past (Below.refl _ _).drew) (by omega)).mono ?_;rintro e w4 ⟨rfl,hm2,hB2,hO2,hz2⟩;have hB2:=below_undrew hB2;have hO2:BesideS g wy w4:=hO2;have HBX:=hd_ (hO2.tree HBX.out (by omega));have y0:w4.cell? ⟨h,0,none⟩=some (.int .i64 9):=(by rw [Lib.cell_of_heap HBX.out];rfl);have y1:w4.cell? ⟨h,1,none⟩=some (.string t):=(by rw [Lib.cell_of_heap HBX.out];rfl);have y2:w4.cell? ⟨h,2,none⟩=some (.int .i64 n):=(by rw [Lib.cell_of_heap HBX.out];rfl);have HM:=hd_ hm2;have HB:=hd_ (HB.out.trans hB2);have HO:=hd_ (HO.out.trans hO2);have hz:=Nat.le_trans hz hz2;clear hm2 hB2 hO2 hz2))
 clear hcat0
 go_wp2
 go_end0
 exact ⟨rfl,HM.out,HB.out,HO.out,hz⟩
theorem sline_note {t:ByteArray} (ht8:t.size<=2000) {LT:ByteArray} (hLT:⟨(Lib.trimRightB (⟨#[35,32]⟩++t:ByteArray).data.toList 32).toArray⟩=LT) (hne:LT.data.toList≠[]) (A:Option Addr) (c:Nat) (w:World) (hN:Nds w w.heap.size A [⟨9,t,0⟩]) (hp:PowT w) :
  Calls Tryz.prog 36 #[.slice A 1 c] w (Ret w (.string LT)):=by
 have HNE:=hd_ hne
 have hST:SySt w.heap.size w.heap.size A c [⟨9,t,0⟩] 0 .empty (w.alloc (.cells #[.pointer none,.slice none 0 0,.slice A 1 c,.int .i64 (0:Nat)] 130)) :=
  ⟨SyW.new w _,hN.mkunder ((Below.refl _ _).alloc (Nat.le_refl _) _) (Nat.le_refl _),hp.past ((Below.refl _ _).alloc (Nat.le_refl _) _),hp.lt⟩
 have hW:=swrite_9 hST (by simp) rfl (by simp) (by decide) ht8 hLT
 rw [ByteArray.empty_append] at hW
 have HW:=hd_ hW
 have HAL:Hid (Below w.heap.size w (w.alloc (.cells #[.pointer none,.slice none 0 0,.slice A 1 c,.int .i64 (0:Nat)] 130))):=hd_ ((Below.refl _ _).alloc (Nat.le_refl _) _)
 clear hW hST hN hp hLT hne ht8
 go_enter Tryz.func36,Tryz.ntmps36
 go_wp2_with (first
  | (go_at_call 61;refine HW.out.mono ?_;rintro e w2 ⟨rfl,hm,hB2,hO2,hz2⟩;have HM:=hd_ hm;have hB3:=HAL.out.trans hB2;clear hm hB2 hO2)
  | (go_at_call 37;refine (sy_string _ _ _ _ _ _ HM.out.wr HNE.out).mono ?_;rintro e w3 ⟨rfl,hB4⟩))
 go_ret
 exact ⟨rfl,hB3.trans hB4⟩
theorem note_size {x:ByteArray} (h:treeOne 9 x 0=0):x.size<=1260:=by
 have hwf:wordsF (noteL x)=0:=by
  unfold treeOne at h
  split at h
  ·cases h
  ·split at h
   ·cases h
   ·simpa using h
 obtain ⟨h1,h2⟩:=wordsF_facts hwf
 have h3:=joinW_size (noteL x)
 rw [joinW_noteL] at h3
 have h4:∀ l:List ByteArray,(∀ w ∈ l,wordF w=true)->costL l<=21*l.length:=by
  intro l
  induction l with
  | nil=>intro _;exact Nat.le_refl _
  | cons w r ih =>
   intro hw
   have a1:=ih (fun y hy=>hw y (by simp [hy]))
   have a2:=(wordF_facts (hw w (by simp))).2.1
   simp only [costL,List.map_cons,List.sum_cons,List.length_cons] at *
   omega
 have:=h4 _ h2
 omega
theorem lineSaid_all {u:List Nd} (h:treeF u=0):LineSaid u (lineL u):=by
 by_cases h9:opAt u 0=9
 ·obtain ⟨x,rfl,h1⟩:=tree_note h h9
  have hz:=note_size h1
  have hwf:wordsF (noteL x)=0:=by
   unfold treeOne at h1
   split at h1
   ·cases h1
   ·split at h1
    ·cases h1
    ·simpa using h1
  have hT:⟨(Lib.trimRightB (⟨#[35,32]⟩++x:ByteArray).data.toList 32).toArray⟩=lineL [⟨9,x,0⟩]:=by
   have e:lineL [⟨9,x,0⟩]=if x.data.toList=[] then ⟨#[35]⟩ else ⟨#[35,32]⟩++x:=rfl
   rw [e,trim_lib]
   apply ByteArray.ext
   apply Array.toList_inj.1
   rw [ByteArray.data_append,Array.toList_append]
   by_cases hx:x.data.toList=[]
   ·rw [if_pos hx,hx];rfl
   ·have hd:=noteL_data (t:=x)
    rw [if_neg hx] at hd ⊢
    have hn:noteL x≠[]:=fun e=>by
     rw [e] at hd
     obtain ⟨h,t,e2⟩:=spl_ne x.data.toList
     rw [e2] at hd;cases hd
    have hj:Lib.join ((noteL x).map (·.data.toList)) [32]=x.data.toList:=by rw [hd];exact join_spl _
    show trimR (35::32::x.data.toList)=_
    rw [trim_line (wordsF_facts hwf).2 hn hj,ByteArray.data_append,Array.toList_append];rfl
  have hne:(lineL [⟨9,x,0⟩]).data.toList≠[]:=by
   have e:lineL [⟨9,x,0⟩]=if x.data.toList=[] then ⟨#[35]⟩ else ⟨#[35,32]⟩++x:=rfl
   rw [e]
   split
   ·simp
   ·rw [ByteArray.data_append,Array.toList_append];simp
  refine ⟨?_,fun A c w hN hp=>sline_note (by omega) hT hne A c w hN hp⟩
  have e:lineL [⟨9,x,0⟩]=if x.data.toList=[] then ⟨#[35]⟩ else ⟨#[35,32]⟩++x:=rfl
  rw [e]
  split
  ·decide
  ·rw [ByteArray.size_append]
   show 2+x.size<=2000
   omega
 ·have e:lineL u=textL u:=by rw [lineL,if_neg h9];rfl
  rw [e]
  exact lineSaid_doc h h9
end Go.Proofs.YtddfdmopaeghnadGreatDoor
