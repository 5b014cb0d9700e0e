/- Plain facts for the law WayParts: what showing gives, two docs as one, deeper. With what it rests on. Conditions: as each theorem states them. -/
import Derived.Test.YtddfdmopaeghnadGreatDoorRqBc
import Derived.Lib.IndexBytes
import Derived.Test.YtddfdmopaeghnadGreatDoorRqMk
import Derived.Test.YtddfdmopaeghnadGreatDoorRqSy
import Derived.Test.YtddfdmopaeghnadGreatDoorRqFi
import Derived.Test.YtddfdmopaeghnadGreatDoorRqOs
import Derived.Shelf.Strings.BuilderK
import Derived.Test.YtddfdmopaeghnadGreatDoorRqOa
import Derived.Test.YtddfdmopaeghnadGreatDoorRqOb
import Derived.Test.YtddfdmopaeghnadGreatDoorRqOc
set_option maxRecDepth 100000
set_option maxHeartbeats 16000000
namespace Go.Proofs.YtddfdmopaeghnadGreatDoor
theorem D.lay_len {x:D}:∀ {dp:Int} {w r:List Int} {s:ByteArray},x.lay dp w=.ok (s,r)->w.length<=r.length+x.sz:=by
 induction x with
 | leaf d =>
  intro dp w r s h
  simp only [D.lay] at h
  split at h
  ·cases h;omega
  ·split at h <;> (cases h;omega)
 | un d a ih =>
  intro dp w r s h
  simp only [D.lay] at h
  simp only [D.sz]
  split at h
  ·have:=ih h;omega
  ·cases w with
   | nil=>cases h
   | cons c w' =>
    simp only at h
    simp only [List.length_cons]
    split at h
    ·cases hf:a.flat with
     | none=>rw [hf] at h;cases h
     | some t=>rw [hf] at h;cases h;omega
    ·have:=ih h;omega
 | bin d a b ia ib =>
  intro dp w r s h
  simp only [D.lay] at h
  simp only [D.sz]
  split at h
  ·cases ha:a.lay (dp+d.n) w with
   | error e=>rw [ha] at h;cases h
   | ok p =>
    obtain ⟨s1,w1⟩:=p
    rw [ha] at h
    simp only at h
    cases hb:b.lay (dp+d.n) w1 with
    | error e=>rw [hb] at h;cases h
    | ok q =>
     obtain ⟨s2,w2⟩:=q
     rw [hb] at h
     cases h
     have h1:=ia ha
     have h2:=ib hb
     omega
  ·cases w with
   | nil=>cases h
   | cons c w' =>
    simp only at h
    simp only [List.length_cons]
    split at h
    ·have:=ia h;omega
    ·have:=ib h;omega
theorem Doc.goodx {l:List Nd} {x:D} (hd:Doc l x):x.good:=fun d hdm=>hd.one d (by rw [hd.enc];exact hdm)
theorem Doc.szx {l:List Nd} {x:D} (hd:Doc l x):x.sz=l.length:=by rw [hd.enc,D.len_enc]
structure Shown (l:List Nd) (x:D) (ws:List Int) (s:ByteArray):Prop where
 doc:Doc l x
 bits:badBit ws=false
 lay:x.lay 0 ws=.ok (s,[])
 few:ws.length<=400
 size:s.size<=1400000
theorem Shown.of {l:List Nd} {x:D} (hd:Doc l x) {ws:List Int} {s:ByteArray} (hb:badBit ws=false) (h:x.lay 0 ws=.ok (s,[])):Shown l x ws s:=by
 have h1:=D.lay_len h
 have h2:=D.lay_size hd.goodx (by omega) h
 have h3:=hd.szx
 have h4:=hd.len
 have h5:x.sz*(21+((0:Int).toNat+8*x.sz))<=400*3221:=Nat.mul_le_mul (by omega) (by show 21+(0+8*x.sz)<=3221;omega)
 exact ⟨hd,hb,h,by simp only [List.length_nil] at h1;omega,by omega⟩
end Go.Proofs.YtddfdmopaeghnadGreatDoor
namespace Go.Proofs.YtddfdmopaeghnadGreatDoor
end Go.Proofs.YtddfdmopaeghnadGreatDoor
namespace Go.Proofs.YtddfdmopaeghnadGreatDoor
def bU (w:Nat) (x:D):List Int:=bestU w [(x,0)] 0
def bC (w:Nat) (x:D):Nat × Nat:=bestC w [(x,0)] 0
def bT (w:Nat) (x:D):ByteArray:=⟨(textK [(x,0)] (bU w x)).toArray⟩
theorem textK_one {x:D} {dp:Int} {u:List Int} {s:ByteArray} {r:List Int} (h:x.lay dp u=.ok (s,r)):textK [(x,dp)] u=s.data.toList:=by
 simp [textK,layK,h]
theorem bU_mem (w:Nat) (x:D):bU w x ∈ x.ways:=by
 have:=bestU_mem w [(x,0)] 0
 rwa [waysK_one] at this
theorem bU_is (w:Nat) (x:D):best1 (fun u=>cst w 0 (textK [(x,0)] u)) x.ways=some (bU w x):=by
 have:=bestU_is w [(x,0)] 0
 rwa [waysK_one] at this
theorem bT_toList (w:Nat) (x:D):(bT w x).data.toList=textK [(x,0)] (bU w x):=by simp [bT]
theorem bC_T (w:Nat) (x:D):bC w x=cst w 0 (bT w x).data.toList:=by rw [bT_toList];rfl
theorem bits_bad {u:List Int} (h:Bits u):badBit u=false:=by
 simp only [badBit,List.any_eq_false,decide_eq_true_eq]
 intro c hc
 have:=h c hc
 omega
theorem bits_good {u:List Int} (h:badBit u=false):Bits u:=by
 intro c hc
 simp only [badBit,List.any_eq_false,decide_eq_true_eq] at h
 have:=h c hc
 omega
theorem Doc.best_shown {l:List Nd} {x:D} (hd:Doc l x) (w:Nat):Shown l x (bU w x) (bT w x):=by
 obtain ⟨s,hs⟩:=D.lay_way (dp:=0) (bU_mem w x)
 have:bT w x=s:=by
  rw [bT,textK_one hs]
 rw [this]
 exact Shown.of hd (bits_bad (D.ways_bits _ (bU_mem w x))) hs
theorem Shown.way {l:List Nd} {x:D} {u:List Int} {s:ByteArray} (h:Shown l x u s):u ∈ x.ways:=by
 obtain ⟨v,hv,e,_⟩:=D.way_of (bits_good h.bits) h.lay
 rw [List.append_nil] at e
 exact e▸hv
theorem Shown.least {l:List Nd} {x:D} {u:List Int} {s:ByteArray} (h:Shown l x u s) (w:Nat):cLess (cst w 0 s.data.toList) (bC w x)=false:=by
 have:=best1_least (bU_is w x) u h.way
 rw [textK_one h.lay] at this
 exact this
theorem ahead_asym:∀ {u v:List Int},aheadL u v=true->aheadL v u=false
 | [],_,h=>by simp [aheadL] at h
 | _::_,[],h=>by simp [aheadL] at h
 | a::r,b::s,h=>by
  simp only [aheadL] at h ⊢
  by_cases e:a=b
  ·subst e
   simp only [if_true] at h ⊢
   exact ahead_asym h
  ·rw [if_neg e] at h
   rw [if_neg (Ne.symm e)]
   have:=of_decide_eq_true h
   exact decide_eq_false (by omega)
theorem Shown.first {l:List Nd} {x:D} {u:List Int} {s:ByteArray} (h:Shown l x u s) {w:Nat} (he:cst w 0 s.data.toList=bC w x):aheadL u (bU w x)=false:=by
 have h1:=best1_first (R:=fun a b=>aheadL a b=true) D.ways_rise (bU_is w x) u h.way (by rw [textK_one h.lay];exact he)
 rcases h1 with rfl|h1
 ·exact ahead_irr _
 ·exact ahead_asym h1
end Go.Proofs.YtddfdmopaeghnadGreatDoor
namespace Go.Proofs.YtddfdmopaeghnadGreatDoor
def rn:Bool->List UInt8->Option Bool
 | p,[]=>some p
 | p,c::r=>if c=10 then (if p=true then none else rn false r) else rn (c==32) r
theorem rn_app:∀ (a b:List UInt8) (p:Bool),rn p (a++b)=match rn p a with|none=>none|some q=>rn q b
 | [],b,p=>rfl
 | c::a,b,p=>by
  simp only [List.cons_append,rn]
  split
  ·split
   ·rfl
   ·exact rn_app a b _
  ·exact rn_app a b _
theorem rn_word:∀ (s:List UInt8) (p:Bool),(∀ c ∈ s,c≠10)->rn p s=some (match s.getLast? with|none=>p|some c=>c==32)
 | [],p,_=>rfl
 | [c],p,h=>by simp [rn,h c (by simp)]
 | c::d::r,p,h=>by
  rw [rn,if_neg (h c (by simp)),rn_word (d::r) _ (fun x hx=>h x (by simp [hx]))]
  rw [List.getLast?_cons_cons]
  cases he:(d::r).getLast? with
  | none=>simp at he
  | some x=>rfl
theorem rn_blanks (n:Nat):∀ p,rn p (List.replicate n 32)=some (p||decide (0<n)):=by
 induction n with
 | zero=>intro p;simp [rn]
 | succ n ih=>intro p;rw [List.replicate_succ,rn,if_neg (by decide),ih];simp
theorem rn_line (n:Nat):∃ q,rn false ((⟨#[10]⟩++blanksB n:ByteArray).data.toList)=some q:=by
 rw [ByteArray.data_append,Array.toList_append,rn_app]
 have e:rn false (⟨#[10]⟩:ByteArray).data.toList=some false:=rfl
 rw [e]
 exact ⟨_,rn_blanks n _⟩
def Kb (a z:Bool) (ns:List Nd):Prop :=
 ∃ x:D,x.ok/\x.enc=ns/\(∀ (dp:Int) (w r:List Int) (s:ByteArray),x.lay dp w=.ok (s,r)->∀ p:Bool,(a=true∨p=false)->∃ q,rn p s.data.toList=some q/\(z=true∨q=false))/\∀ s,x.flat=some s->∀ p:Bool,(a=true∨p=false)->∃ q,rn p s.data.toList=some q/\(z=true∨q=false)
theorem Kb.word {z:Bool} {s:ByteArray} (h:∀ c ∈ s.data.toList,c≠10) (hl:∃ c,s.data.toList.getLast?=some c/\(z=true∨c≠32)):Kb true z (wordN s):=by
 obtain ⟨c,hc,hz⟩:=hl
 have main:∀ p:Bool,(true=true∨p=false)->∃ q,rn p s.data.toList=some q/\(z=true∨q=false):=fun p _=>⟨c==32,by rw [rn_word _ _ h,hc],by rcases hz with hz|hz;exact .inl hz;exact .inr (by simpa using hz)⟩
 refine ⟨.leaf ⟨1,s,0⟩,rfl,rfl,fun dp w r t ht=>?_,fun t ht=>?_⟩
 ·simp only [D.lay,if_true] at ht
  cases ht;exact main
 ·simp only [D.flat,if_true] at ht
  cases ht;exact main
theorem rq38 {P:Prop} (h:P:=by
 cases ht
 obtain rfl:p=false:=by rcases hp with h|h;cases h;exact h
 obtain ⟨q,hq⟩:=rn_line dp.toNat
 exact ⟨q,hq,.inl rfl⟩):P:=h
theorem Kb.blank:Kb false true (opN 2):=by
 refine ⟨.leaf ⟨2,.empty,0⟩,rfl,rfl,fun dp w r t ht p hp=>?_,fun t ht p hp=>?_⟩
 ·simp only [D.lay,show ¬ (2:Int)=1 by decide,show ¬ (2:Int)=5 by decide,if_false] at ht
  exact rq38
 ·simp only [D.flat,show ¬ (2:Int)=1 by decide,if_false,if_true] at ht
  cases ht
  exact ⟨true,rfl,.inl rfl⟩
theorem Kb.soft:Kb false true (opN 3):=by
 refine ⟨.leaf ⟨3,.empty,0⟩,rfl,rfl,fun dp w r t ht p hp=>?_,fun t ht p hp=>?_⟩
 ·simp only [D.lay,show ¬ (3:Int)=1 by decide,show ¬ (3:Int)=5 by decide,if_false] at ht
  exact rq38
 ·simp only [D.flat,show ¬ (3:Int)=1 by decide,show ¬ (3:Int)=2 by decide,if_false] at ht
  cases ht
  exact ⟨p,rfl,.inl rfl⟩
theorem both_layX {a b:D} {dp:Int} {w r:List Int} {t:ByteArray} (h:(D.bin ⟨6,.empty,0⟩ a b).lay dp w=.ok (t,r)):∃ s1 w1 s2,a.lay (dp+0) w=.ok (s1,w1)/\b.lay (dp+0) w1=.ok (s2,r)/\t=s1++s2:=by
 simp only [D.lay,if_true] at h
 cases ha:a.lay (dp+0) w with
 | error e=>rw [ha] at h;cases h
 | ok p =>
  obtain ⟨s1,w1⟩:=p
  rw [ha] at h
  cases hb:b.lay (dp+0) w1 with
  | error e=>simp only [hb] at h;cases h
  | ok q =>
   obtain ⟨s2,w2⟩:=q
   simp only [hb] at h
   cases h
   exact ⟨s1,w1,s2,rfl,hb,rfl⟩
theorem both_flatX {a b:D} {t:ByteArray} (h:(D.bin ⟨6,.empty,0⟩ a b).flat=some t):∃ s1 s2,a.flat=some s1/\b.flat=some s2/\t=s1++s2:=by
 simp only [D.flat,if_true] at h
 cases ha:a.flat with
 | none=>rw [ha] at h;cases h
 | some s1 =>
  cases hb:b.flat with
  | none=>rw [ha,hb] at h;cases h
  | some s2=>rw [ha,hb] at h;cases h;exact ⟨s1,s2,rfl,rfl,rfl⟩
theorem rn_two {a z1 b z p:Bool} {s1 s2:List UInt8} (h1:∀ p:Bool,(a=true∨p=false)->∃ q,rn p s1=some q/\(z1=true∨q=false)) (h2:∀ p:Bool,(b=true∨p=false)->∃ q,rn p s2=some q/\(z=true∨q=false)) (hc:b=true∨z1=false) (hp:a=true∨p=false):∃ q,rn p (s1++s2)=some q/\(z=true∨q=false):=by
 obtain ⟨q,g1,g2⟩:=h1 p hp
 obtain ⟨q',g3,g4⟩:=h2 q (by rcases hc with h|h;exact .inl h;subst h;rcases g2 with h|h;cases h;exact .inr h)
 exact ⟨q',by rw [rn_app,g1];exact g3,g4⟩
theorem Kb.both {a z1 b z:Bool} {m n:List Nd} (h1:Kb a z1 m) (h2:Kb b z n) (hc:b=true∨z1=false):Kb a z (bothN m n):=by
 obtain ⟨x,x1,x2,x3,x4⟩:=h1
 obtain ⟨y,y1,y2,y3,y4⟩:=h2
 refine ⟨.bin ⟨6,.empty,0⟩ x y,⟨by decide,x1,y1⟩,by simp [D.enc,bothN,x2,y2],fun dp w r t ht p hp=>?_,fun t ht p hp=>?_⟩
 ·obtain ⟨s1,w1,s2,g1,g2,rfl⟩:=both_layX ht
  rw [ByteArray.data_append,Array.toList_append]
  exact rn_two (x3 _ _ _ _ g1) (y3 _ _ _ _ g2) hc hp
 ·obtain ⟨s1,s2,g1,g2,rfl⟩:=both_flatX ht
  rw [ByteArray.data_append,Array.toList_append]
  exact rn_two (x4 _ g1) (y4 _ g2) hc hp
theorem Kb.group {a z:Bool} {n:List Nd} (h:Kb a z n):Kb a z (groupN n):=by
 obtain ⟨x,x1,x2,x3,x4⟩:=h
 refine ⟨.un ⟨8,.empty,0⟩ x,⟨by decide,x1⟩,by simp [D.enc,groupN,x2],fun dp w r s hs=>?_,fun s hs=>x4 s hs⟩
 simp only [D.lay,show ¬ (8:Int)=7 by decide,if_false] at hs
 cases w with
 | nil=>cases hs
 | cons c w =>
  simp only at hs
  split at hs
  ·cases hf:x.flat with
   | none=>rw [hf] at hs;cases hs
   | some u=>rw [hf] at hs;cases hs;exact x4 _ hf
  ·exact x3 _ _ _ _ hs
theorem Kb.deep {a z:Bool} {n:List Nd} (h:Kb a z n):Kb a z (deepN n):=by
 obtain ⟨x,x1,x2,x3,x4⟩:=h
 refine ⟨.un ⟨7,.empty,2⟩ x,⟨by decide,x1⟩,by simp [D.enc,deepN,x2],fun dp w r s hs=>?_,fun s hs=>x4 s hs⟩
 simp only [D.lay,if_true] at hs
 exact x3 _ _ _ _ hs
theorem Kb.sign {c:UInt8} (h:c≠10) (h2:c≠32):Kb true false (wordN ⟨#[c]⟩):=Kb.word (fun d hd=>by rw [List.mem_singleton.1 hd];exact h) ⟨c,rfl,.inr h2⟩
theorem Kb.kid {po ko:Int} {b:Bool} {n:List Nd} (h:Kb true false n):Kb true false (kidD po ko b n):=by
 unfold kidD
 split
 ·exact (Kb.sign (c:=40) (by decide) (by decide)).both (h.both (Kb.sign (c:=41) (by decide) (by decide)) (.inl rfl)) (.inl rfl)
 ·exact h
theorem Kb.kids {l:List Nd} {g:Nat->List Nd}:∀ (m a z:Nat),KidsP l a m z->0<m->(∀ b,a<=b->b<l.length->Kb true false (g b))->Kb true false (kidsD g (tEnd l) a m):=by
 intro m
 induction m with
 | zero=>intro a z h h0;omega
 | succ m ih =>
  intro a z h _ hg
  obtain ⟨h1,h2,h3⟩:=h
  have h4:=hg a (Nat.le_refl _) h1
  rw [kidsD]
  split
  ·exact h4
  ·have h5:=ih _ _ h3 (by omega) (fun b hb hb2=>hg b (by omega) hb2)
   exact (h4.both (Kb.sign (c:=44) (by decide) (by decide)) (.inl rfl)).both (Kb.blank.both h5 (.inl rfl)) (.inr rfl)
theorem Kb.listed {o c:ByteArray} {m:Nat} {k:List Nd} (h0:Kb true false (wordN (o++c))) (ho:Kb true false (wordN o)) (hc:Kb true false (wordN c)) (h:0<m->Kb true false k):Kb true false (listD o c m k):=by
 unfold listD
 split
 ·exact h0
 ·exact (ho.both ((Kb.deep (Kb.soft.both (h (by omega)) (.inl rfl))).both (Kb.soft.both hc (.inl rfl)) (.inr rfl)) (.inr rfl)).group
theorem last_app {a b:List UInt8} (h:b≠[]):(a++b).getLast?=b.getLast?:=by rw [List.getLast?_append,List.getLast?_eq_some_getLast h];rfl
theorem low_kb {c:UInt8} (h:lowC c=true):c≠10/\c≠32:=by
 constructor <;> (rintro rfl;revert h;decide)
theorem name_kb {t:ByteArray} (h:nameF t=true) (a b:List UInt8) (ha:∀ c ∈ a,c≠10) (hb:∀ c ∈ b,c≠10/\c≠32):(∀ c ∈ a++t.data.toList++b,c≠10)/\∃ c,(a++t.data.toList++b).getLast?=some c/\(false=true∨c≠32):=by
 obtain ⟨h0,h8,hl⟩:=name_facts h
 have hl2:∀ c ∈ t.data.toList,c≠10/\c≠32:=fun c hc=>low_kb (List.all_eq_true.1 hl c hc)
 refine ⟨fun c hc=>?_, ?_⟩
 ·rcases List.mem_append.1 hc with hc|hc
  ·rcases List.mem_append.1 hc with hc|hc
   ·exact ha c hc
   ·exact (hl2 c hc).1
  ·exact (hb c hc).1
 ·have hne:t.data.toList++b≠[]:=by
   intro e
   have:=(List.append_eq_nil_iff.1 e).1
   have h1:t.data.toList.length=t.size:=by simp
   rw [this] at h1
   simp at h1
   omega
  rw [List.append_assoc]
  refine ⟨(t.data.toList++b).getLast hne, ?_,.inr ?_⟩
  ·rw [last_app hne,List.getLast?_eq_some_getLast hne]
  ·have:=List.getLast_mem hne
   rcases List.mem_append.1 this with hc|hc
   ·exact (hl2 _ hc).2
   ·exact (hb _ hc).2
theorem rq37 {P:Prop} (h:P:=by
 by_cases hc:l[i].op<1∨9<l[i].op
 ·rw [treeOne,if_pos (by rcases hc with h|h;exact .inl h;exact .inr (.inl h))] at hone;cases hone
 ·omega):P:=h
theorem docT_kb {l:List Nd} (hT:Tr l):∀ f i:Nat,l.length<=i+f->(hi:i<l.length)->l[i].op≠9->Kb true false (docT l f i):=by
 intro f
 induction f with
 | zero=>intro i h1 h2;omega
 | succ f ih =>
  intro i h1 h2 h9
  have hk:=hT.kidsP h2
  have hm:(manyL l).getD i 0=(manyF l[i].op l[i].n).toNat:=manyL_at h2 rfl
  have hone:=hT.one _ (List.getElem_mem h2)
  have hop:1<=l[i].op/\l[i].op<=9:=by
   exact rq37
  rw [hm] at hk
  have ihk:∀ b,i+1<=b->b<l.length->Kb true false (docT l f b):=fun b hb hl=>ih b (by omega) hl (by have:=hT.low hl (by omega);omega)
  rw [docT,getD_at h2]
  generalize l[i].op=op at *
  generalize l[i].n=n at *
  generalize l[i].text=t at *
  have hcs:op=1∨op=2∨op=3∨op=4∨op=5∨op=6∨op=7∨op=8:=by omega
  rcases hcs with rfl|rfl|rfl|rfl|rfl|rfl|rfl|rfl
  ·obtain ⟨n0,n1⟩:=tone_num hone
   simp only [if_true]
   have hd:=itoa_digs n0
   have hl:=itoa_len6 n0 n1
   have hd2:∀ c ∈ Lib.itoa n,c≠10/\c≠32:=fun c hc=>by
    have:=hd c hc
    constructor <;> (rintro rfl;simp at this)
   have hne:Lib.itoa n≠[]:=by intro e;rw [e] at hl;simp at hl
   refine Kb.word (fun c hc=>(hd2 c (by simpa using hc)).1) ⟨(Lib.itoa n).getLast hne, ?_,.inr (hd2 _ (List.getLast_mem hne)).2⟩
   show (Lib.itoa n).getLast?=_
   rw [List.getLast?_eq_some_getLast hne]
  ·have hnm:=tone_word hone rfl (by decide)
   simp only [show ¬ (2:Int)=1 by decide,if_false,if_true]
   have:=name_kb hnm [] [] (fun c hc=>by cases hc) (fun c hc=>by cases hc)
   simp only [List.nil_append,List.append_nil] at this
   exact Kb.word this.1 this.2
  ·have hnm:=tone_word hone rfl (by decide)
   rw [show manyF 3 n=n from rfl] at hk
   simp only [show ¬ (3:Int)=1 by decide,show ¬ (3:Int)=2 by decide,if_false,if_true]
   have g1:=name_kb hnm [] [40,41] (fun c hc=>by cases hc) (by decide)
   have g2:=name_kb hnm [] [40] (fun c hc=>by cases hc) (by decide)
   refine Kb.listed (Kb.word ?_ ?_) (Kb.word ?_ ?_) (Kb.sign (c:=41) (by decide) (by decide)) (fun h0=>Kb.kids _ _ _ hk h0 ihk)
   ·have:=g1.1;simp only [List.nil_append] at this;rw [ByteArray.data_append,ByteArray.data_append,Array.toList_append,Array.toList_append,List.append_assoc];exact this
   ·have:=g1.2;simp only [List.nil_append] at this;rw [ByteArray.data_append,ByteArray.data_append,Array.toList_append,Array.toList_append,List.append_assoc];exact this
   ·have:=g2.1;simp only [List.nil_append] at this;rw [ByteArray.data_append,Array.toList_append];exact this
   ·have:=g2.2;simp only [List.nil_append] at this;rw [ByteArray.data_append,Array.toList_append];exact this
  ·rw [show manyF 4 n=n from rfl] at hk
   simp only [show ¬ (4:Int)=1 by decide,show ¬ (4:Int)=2 by decide,show ¬ (4:Int)=3 by decide,if_false,if_true]
   exact Kb.listed (Kb.word (by decide) ⟨93,by decide,.inr (by decide)⟩) (Kb.sign (c:=91) (by decide) (by decide)) (Kb.sign (c:=93) (by decide) (by decide)) (fun h0=>Kb.kids _ _ _ hk h0 ihk)
  ·obtain ⟨a1,a2,b1,b2,b3⟩:i+1<l.length/\i+1<tEnd l (i+1)/\tEnd l (i+1)<l.length/\tEnd l (i+1)<tEnd l (tEnd l (i+1))/\tEnd l (tEnd l (i+1))=tEnd l i:=⟨hk.1,hk.2.1,hk.2.2.1,hk.2.2.2.1,hk.2.2.2.2⟩
   have q1:=ihk _ (Nat.le_refl _) a1
   have q2:=ihk _ (by omega) b1
   simp only [show ¬ (5:Int)=1 by decide,show ¬ (5:Int)=2 by decide,show ¬ (5:Int)=3 by decide,show ¬ (5:Int)=4 by decide,if_false,if_true]
   have hw:Kb true true (wordN ⟨#[43,32]⟩):=Kb.word (by decide) ⟨32,rfl,.inl rfl⟩
   exact (q1.kid.both (Kb.deep (Kb.blank.both (hw.both q2.kid (.inl rfl)) (.inl rfl))) (.inr rfl)).group
  ·obtain ⟨a1,a2,b1,b2,b3⟩:i+1<l.length/\i+1<tEnd l (i+1)/\tEnd l (i+1)<l.length/\tEnd l (i+1)<tEnd l (tEnd l (i+1))/\tEnd l (tEnd l (i+1))=tEnd l i:=⟨hk.1,hk.2.1,hk.2.2.1,hk.2.2.2.1,hk.2.2.2.2⟩
   have q1:=ihk _ (Nat.le_refl _) a1
   have q2:=ihk _ (by omega) b1
   simp only [show ¬ (6:Int)=1 by decide,show ¬ (6:Int)=2 by decide,show ¬ (6:Int)=3 by decide,show ¬ (6:Int)=4 by decide,show ¬ (6:Int)=5 by decide,if_false,if_true]
   have hw:Kb true true (wordN ⟨#[42,32]⟩):=Kb.word (by decide) ⟨32,rfl,.inl rfl⟩
   exact (q1.kid.both (Kb.deep (Kb.blank.both (hw.both q2.kid (.inl rfl)) (.inl rfl))) (.inr rfl)).group
  ·have hnm:=tone_word hone rfl (by decide)
   obtain ⟨a1,a2,b3⟩:i+1<l.length/\i+1<tEnd l (i+1)/\tEnd l (i+1)=tEnd l i:=⟨hk.1,hk.2.1,hk.2.2⟩
   have q1:=ihk _ (Nat.le_refl _) a1
   simp only [show ¬ (7:Int)=1 by decide,show ¬ (7:Int)=2 by decide,show ¬ (7:Int)=3 by decide,show ¬ (7:Int)=4 by decide,show ¬ (7:Int)=5 by decide,show ¬ (7:Int)=6 by decide,if_false,if_true]
   have g:=name_kb hnm [108,101,116,32] [] (by decide) (by decide)
   have hw:Kb true false (wordN (⟨#[108,101,116,32]⟩++t++⟨#[32,61]⟩)):=by
    refine Kb.word (fun c hc=>?_) ⟨61, ?_,.inr (by decide)⟩
    ·rw [ByteArray.data_append,Array.toList_append] at hc
     rcases List.mem_append.1 hc with hc|hc
     ·exact g.1 c (by simpa using hc)
     ·have:∀ c ∈ (⟨#[32,61]⟩:ByteArray).data.toList,c≠10:=by decide
      exact this c hc
    ·rw [ByteArray.data_append,Array.toList_append]
     rw [last_app (by simp)];rfl
   exact (hw.both (Kb.deep (Kb.blank.both (q1.both (Kb.sign (c:=59) (by decide) (by decide)) (.inl rfl)) (.inl rfl))) (.inr rfl)).group
  ·obtain ⟨a1,a2,b3⟩:i+1<l.length/\i+1<tEnd l (i+1)/\tEnd l (i+1)=tEnd l i:=⟨hk.1,hk.2.1,hk.2.2⟩
   have q1:=ihk _ (Nat.le_refl _) a1
   simp only [show ¬ (8:Int)=1 by decide,show ¬ (8:Int)=2 by decide,show ¬ (8:Int)=3 by decide,show ¬ (8:Int)=4 by decide,show ¬ (8:Int)=5 by decide,show ¬ (8:Int)=6 by decide,show ¬ (8:Int)=7 by decide,if_false]
   exact q1.both (Kb.sign (c:=59) (by decide) (by decide)) (.inl rfl)
end Go.Proofs.YtddfdmopaeghnadGreatDoor
namespace Go.Proofs.YtddfdmopaeghnadGreatDoor
theorem flat_nl {x:D}:∀ {t:ByteArray},(∀ d ∈ x.enc,oneF d.op d.text d.n=0)->x.flat=some t->∀ c ∈ t.data.toList,c≠10:=by
 induction x with
 | leaf d =>
  intro t ho hf c hc
  have h:=ho d (by simp [D.enc])
  simp only [D.flat] at hf
  split at hf
  ·rename_i h1
   cases hf
   unfold oneF at h
   rw [h1] at h
   split at h
   ·cases h
   ·split at h
    ·cases h
    ·split at h
     ·cases h
     ·rename_i h5
      have hp:prtAll d.text=true:=by
       cases he:prtAll d.text with
       | true=>rfl
       | false=>exact absurd ⟨rfl,.inr (.inr he)⟩ h5
      have:=List.all_eq_true.1 hp c hc
      rintro rfl
      revert this
      decide
  ·split at hf
   ·cases hf
    rw [List.mem_singleton.1 hc];decide
   ·split at hf
    ·cases hf;cases hc
    ·cases hf
 | un d a ih=>intro t ho hf;exact ih (fun e he=>ho e (by simp [D.enc,he])) hf
 | bin d a b ia ib =>
  intro t ho hf c hc
  have ao:∀ e ∈ a.enc,oneF e.op e.text e.n=0:=fun e he=>ho e (by simp [D.enc,he])
  have bo:∀ e ∈ b.enc,oneF e.op e.text e.n=0:=fun e he=>ho e (by simp [D.enc,he])
  simp only [D.flat] at hf
  split at hf
  ·split at hf
   ·rename_i sa sb ha hb
    cases hf
    rw [ByteArray.data_append,Array.toList_append] at hc
    rcases List.mem_append.1 hc with hc|hc
    ·exact ia ao ha c hc
    ·exact ib bo hb c hc
   ·cases hf
  ·exact ia ao hf c hc
theorem lns_none:∀ {s:List UInt8},(∀ c ∈ s,c≠10)->lns s=0
 | [],_=>rfl
 | c::r,h=>by rw [lns,if_neg (h c (by simp)),lns_none (fun d hd=>h d (by simp [hd]))]
theorem ovr_none {w:Nat}:∀ {s:List UInt8} {col:Nat},(∀ c ∈ s,c≠10)->col+s.length<=w->ovr w col s=0
 | [],_,_,_=>rfl
 | c::r,col,h,hl=>by
  rw [List.length_cons] at hl
  rw [ovr,if_neg (h c (by simp)),if_neg (by omega),ovr_none (fun d hd=>h d (by simp [hd])) (by omega)]
theorem lay_line {x:D}:∀ {dp:Int} {ws r:List Int} {s t:ByteArray},(∀ d ∈ x.enc,d.op≠9)->x.flat=some t->x.lay dp ws=.ok (s,r)->x.ok->lns s.data.toList=0->s=t:=by
 have hline:∀ n,lns ((⟨#[10]⟩++blanksB n:ByteArray).data.toList)≠0:=fun n=>by
  rw [ByteArray.data_append,Array.toList_append]
  show (if (10:UInt8)=10 then 1 else 0)+lns _≠0
  rw [if_pos rfl];omega
 induction x with
 | leaf d =>
  intro dp ws r s t h9 hf hl hk hz
  simp only [D.flat] at hf
  simp only [D.lay] at hl
  split at hf
  ·rename_i h1
   rw [if_pos h1] at hl
   cases hf;cases hl;rfl
  ·rename_i h1
   rw [if_neg h1] at hl
   split at hl
   ·rename_i h5
    split at hf
    ·omega
    ·split at hf
     ·cases hf;cases hl;rfl
     ·cases hf
   ·cases hl
    exact absurd hz (hline _)
 | un d a ih =>
  intro dp ws r s t h9 hf hl hk hz
  have g9:∀ e ∈ a.enc,e.op≠9:=fun e he=>h9 e (by simp [D.enc,he])
  simp only [D.flat] at hf
  simp only [D.lay] at hl
  split at hl
  ·exact ih g9 hf hl hk.2 hz
  ·split at hl
   ·cases hl
   ·split at hl
    ·rw [hf] at hl
     cases hl;rfl
    ·exact ih g9 hf hl hk.2 hz
 | bin d a b ia ib =>
  intro dp ws r s t h9 hf hl hk hz
  have a9:∀ e ∈ a.enc,e.op≠9:=fun e he=>h9 e (by simp [D.enc,he])
  have b9:∀ e ∈ b.enc,e.op≠9:=fun e he=>h9 e (by simp [D.enc,he])
  have h6:d.op=6:=by
   have h1:=hk.1
   have h2:=h9 d (by simp [D.enc])
   unfold parts at h1
   split at h1
   ·omega
   ·split at h1 <;> omega
  simp only [D.flat,h6,if_true] at hf
  simp only [D.lay,h6,if_true] at hl
  cases ha:a.flat with
  | none=>rw [ha] at hf;cases hf
  | some sa =>
   cases hb:b.flat with
   | none=>rw [ha,hb] at hf;cases hf
   | some sb =>
    rw [ha,hb] at hf
    cases hf
    cases hla:a.lay (dp+d.n) ws with
    | error e=>rw [hla] at hl;cases hl
    | ok p =>
     obtain ⟨s1,w1⟩:=p
     rw [hla] at hl
     cases hlb:b.lay (dp+d.n) w1 with
     | error e=>simp only [hlb] at hl;cases hl
     | ok q =>
      obtain ⟨s2,w2⟩:=q
      simp only [hlb] at hl
      cases hl
      rw [ByteArray.data_append,Array.toList_append,lns_app] at hz
      rw [ia a9 ha hla hk.2.1 (by omega),ib b9 hb hlb hk.2.2 (by omega)]
def Fw (ns:List Nd):Prop:=∃ x:D,x.ok/\x.enc=ns/\∃ (u:List Int) (t:ByteArray),x.flat=some t/\badBit u=false/\∀ dp w,x.lay dp (u++w)=.ok (t,w)
theorem Fw.word {s:ByteArray}:Fw (wordN s):=⟨.leaf ⟨1,s,0⟩,rfl,rfl,[],s,by simp [D.flat],rfl,fun dp w=>by simp [D.lay]⟩
theorem Fw.both {m n:List Nd} (h1:Fw m) (h2:Fw n):Fw (bothN m n):=by
 obtain ⟨x,x1,x2,u,t,x3,x4,x5⟩:=h1
 obtain ⟨y,y1,y2,v,s,y3,y4,y5⟩:=h2
 refine ⟨.bin ⟨6,.empty,0⟩ x y,⟨by decide,x1,y1⟩,by simp [D.enc,bothN,x2,y2],u++v,t++s,by simp [D.flat,x3,y3],by rw [badBit,List.any_append];simp only [badBit] at x4 y4;rw [x4,y4];rfl,fun dp w=>?_⟩
 simp only [D.lay,if_true]
 rw [List.append_assoc,x5]
 simp only [y5]
theorem Fw.group {a:List Nd} {t:ByteArray} (h:Flt (groupN a) t):Fw (groupN a):=by
 obtain ⟨x,h1,h2,h3,h4,h5⟩:=h
 cases x with
 | leaf d =>
  simp only [D.enc,groupN,List.cons.injEq] at h2
  obtain ⟨rfl,rfl⟩:=h2
  have h1':parts 8=0:=h1
  exact absurd h1' (by decide)
 | un d y =>
  have hd:d=⟨8,.empty,0⟩:=by
   simp only [D.enc,groupN,List.cons.injEq] at h2
   exact h2.1
  subst hd
  refine ⟨_,h1,h2,[0],t,h3,by decide,fun dp w=>?_⟩
  simp only [D.flat] at h3
  simp only [D.lay,show ¬ (8:Int)=7 by decide,if_false,List.cons_append,List.nil_append,if_true,h3]
 | bin d y z =>
  have hd:d=⟨8,.empty,0⟩:=by
   simp only [D.enc,groupN,List.cons.injEq] at h2
   exact h2.1
  subst hd
  exact absurd h1.1 (by decide)
theorem Fw.listed {o c:ByteArray} {m:Nat} {k:List Nd} {t:ByteArray} (h:Flt (listD o c m k) t):Fw (listD o c m k):=by
 unfold listD at *
 split
 ·exact Fw.word
 ·rename_i h0
  rw [if_neg h0] at h
  exact Fw.group h
theorem docT_fw {l:List Nd} (hT:Tr l):∀ f i:Nat,l.length<=i+f->(hi:i<l.length)->l[i].op≠9->Fw (docT l f i):=by
 intro f
 induction f with
 | zero=>intro i h1 h2;omega
 | succ f ih =>
  intro i h1 h2 h9
  have hfl:=docT_flat hT (f+1) i h1 h2 h9
  have hk:=hT.kidsP h2
  have hm:(manyL l).getD i 0=(manyF l[i].op l[i].n).toNat:=manyL_at h2 rfl
  have hone:=hT.one _ (List.getElem_mem h2)
  have hop:1<=l[i].op/\l[i].op<=9:=by
   exact rq37
  rw [hm] at hk
  have ihk:∀ b,i+1<=b->b<l.length->Fw (docT l f b):=fun b hb hl=>ih b (by omega) hl (by have:=hT.low hl (by omega);omega)
  rw [docT,getD_at h2] at hfl ⊢
  generalize textX l (f+1) i=T at *
  generalize l[i].op=op at *
  generalize l[i].n=n at *
  generalize l[i].text=t at *
  have hcs:op=1∨op=2∨op=3∨op=4∨op=5∨op=6∨op=7∨op=8:=by omega
  rcases hcs with rfl|rfl|rfl|rfl|rfl|rfl|rfl|rfl
  ·simp only [if_true]
   exact Fw.word
  ·simp only [show ¬ (2:Int)=1 by decide,if_false,if_true]
   exact Fw.word
  ·simp only [show ¬ (3:Int)=1 by decide,show ¬ (3:Int)=2 by decide,if_false,if_true] at hfl ⊢
   exact Fw.listed hfl
  ·simp only [show ¬ (4:Int)=1 by decide,show ¬ (4:Int)=2 by decide,show ¬ (4:Int)=3 by decide,if_false,if_true] at hfl ⊢
   exact Fw.listed hfl
  ·simp only [show ¬ (5:Int)=1 by decide,show ¬ (5:Int)=2 by decide,show ¬ (5:Int)=3 by decide,show ¬ (5:Int)=4 by decide,if_false,if_true] at hfl ⊢
   exact Fw.group hfl
  ·simp only [show ¬ (6:Int)=1 by decide,show ¬ (6:Int)=2 by decide,show ¬ (6:Int)=3 by decide,show ¬ (6:Int)=4 by decide,show ¬ (6:Int)=5 by decide,if_false,if_true] at hfl ⊢
   exact Fw.group hfl
  ·simp only [show ¬ (7:Int)=1 by decide,show ¬ (7:Int)=2 by decide,show ¬ (7:Int)=3 by decide,show ¬ (7:Int)=4 by decide,show ¬ (7:Int)=5 by decide,show ¬ (7:Int)=6 by decide,if_false,if_true] at hfl ⊢
   exact Fw.group hfl
  ·obtain ⟨a1,a2,b3⟩:i+1<l.length/\i+1<tEnd l (i+1)/\tEnd l (i+1)=tEnd l i:=⟨hk.1,hk.2.1,hk.2.2⟩
   simp only [show ¬ (8:Int)=1 by decide,show ¬ (8:Int)=2 by decide,show ¬ (8:Int)=3 by decide,show ¬ (8:Int)=4 by decide,show ¬ (8:Int)=5 by decide,show ¬ (8:Int)=6 by decide,show ¬ (8:Int)=7 by decide,if_false]
   exact (ihk _ (Nat.le_refl _) a1).both Fw.word
theorem Doc.same {l:List Nd} {x y:D} (hx:Doc l x) (h1:y.ok) (h2:y.enc=l):y=x:=by
 have hy:Doc l y:=⟨h1,h2.symm,hx.one,hx.len⟩
 rw [← hy.root,hx.root]
theorem fit_all {l:List Nd} (h:treeF l=0) (h9:opAt l 0≠9) {x:D} (hd:Doc (docL l) x) (W:Nat) :
  rn false (bT W x).data.toList=some false/\((textL l).size<=W->bT W x=textL l)/\∀ (u:List Int) (s:ByteArray),Shown (docL l) x u s->ovr W 0 s.data.toList=0->ovr W 0 (bT W x).data.toList=0:=by
 have hT:=Tr.of_check h
 have h0:=hT.pos0
 have hoe:opAt l 0=(l[0]'h0).op:=by rw [opAt,getD_at h0]
 have hsh:=hd.best_shown W
 refine ⟨?_,fun hfit=>?_,fun u s hu hz=>?_⟩
 ·obtain ⟨y,y1,y2,y3,_⟩:=docT_kb hT l.length 0 (by omega) h0 (by rw [← hoe];exact h9)
  obtain rfl:=hd.same y1 y2
  obtain ⟨q,g1,g2⟩:=y3 _ _ _ _ hsh.lay false (.inr rfl)
  rcases g2 with g2|g2
  ·cases g2
  ·rw [g1,g2]
 ·obtain ⟨y,y1,y2,u,t,y3,y4,y5⟩:=docT_fw hT l.length 0 (by omega) h0 (by rw [← hoe];exact h9)
  obtain rfl:=hd.same y1 y2
  obtain ⟨z,z1,z2,z3,z4,z5⟩:=docL_flat h h9
  obtain rfl:=hd.same z1 z2
  rw [z3] at y3
  cases y3
  have hnl:=flat_nl (x:=z) (by rw [z2];exact z4) z3
  have hl0:=y5 0 []
  rw [List.append_nil] at hl0
  have hS:=Shown.of hd y4 hl0
  have hle:=hS.least W
  have hc0:cst W 0 (textL l).data.toList=(0,0):=by
   rw [cst,lns_none hnl,ovr_none hnl (by simpa using hfit)]
  rw [hc0,cLess_no,bC_T] at hle
  have hl:lns (bT W z).data.toList=0:=by
   simp only [cst] at hle
   omega
  exact lay_line (by rw [z2];exact z5) z3 hsh.lay z1 hl
 ·have hle:=hu.least W
  rw [cLess_no,bC_T] at hle
  simp only [cst] at hle
  omega
end Go.Proofs.YtddfdmopaeghnadGreatDoor
namespace Go.Proofs.YtddfdmopaeghnadGreatDoor
open Go.RowKit Go.Maps Go.ChangeMaps
theorem cheap_ask {l:List Nd} {x:D} (hd:Doc l x) {gp:Nat} {A:Option Addr} {c:Nat} (w0:World) (hpl:IsPlan w0 gp A c l) (hnl:Nds w0 w0.heap.size A l) {gs bm W:Nat} (hW:W<=100) {K:List (D × Int)} (ih:∀ y,y<szK K->CheapSaid w0 gs gp bm W l y) {i col:Nat} {w:World} (hrep:Rep l i K) (hcs:CS w0 gs gp bm W l w) (hcol:col+3300*szK K<=2000000)
  {f:Value->Option Value} (hmf:MapF Tryz.prog 173 f bm w) (hv:f (spotV i col)=none) (hlt:i<l.length) (ho:l[i].op=8∨l[i].op=9) :
  Calls Tryz.prog 90 #[.pointer (some ⟨gs,0,none⟩),spotV i col] w (CheapTo w0 gs gp bm W l (courseV (bestC W K col) (choiceOf l i (bestU W K col))) w):=by
 obtain ⟨t0,ok0,i0,i1,K0,K1,hp,h0,h1,hpc,hc0,hc1⟩:=best_ask (gp:=gp) (A:=A) (c:=c) hd hrep hlt ho
 have hch:∀ u,choiceOf l i u=u.headD 0:=fun u=>by
  unfold choiceOf
  rw [dif_pos hlt,if_pos ho]
 obtain ⟨hbp0,hbp1⟩:=best_pick hp (fun h=>(h0 h).2.2) h1.2.2 W col
 have hz0:=hp.2.2.1
 have hz1:=hp.2.2.2.1
 have hl1:=bestC_le W K1 (colOf col ByteArray.empty.data.toList) (hd.text_le _ i1 K1 (Nat.le_refl _) hp.2.1)
 have e1:ByteArray.empty.data.toList=[]:=rfl
 have hcp1:∀ W':World,CS w0 gs gp bm W l W'->Calls Tryz.prog 90 #[.pointer (some ⟨gs,0,none⟩),.agg #[.int .i64 (i1:Nat),.int .i64 (colOf col ByteArray.empty.data.toList:Nat)]] W' (CheapTo w0 gs gp bm W l (.agg #[.int .i64 ((bestC W K1 (colOf col ByteArray.empty.data.toList)).1:Nat),.int .i64 ((bestC W K1 (colOf col ByteArray.empty.data.toList)).2:Nat),.int .i64 (choiceOf l i1 (bestU W K1 (colOf col ByteArray.empty.data.toList)))]) W'):=fun W' hc =>
  ih (szK K1) hz1 K1 (Nat.le_refl _) i1 _ W' hp.2.1 hc (by rw [e1];simp only [colOf];omega)
 have hput1:∀ W':World,W'.heap[gs]?=some (.cells #[.pointer (some ⟨gp,0,none⟩),.int .i64 (W:Nat),.map (some bm)] 168 (0,0))->_:=fun W' hb=>put_any (gs:=gs) (gp:=gp) (bm:=bm) (W:=W) (col:=col) ptxt_empty (by omega) (by simp) hW W' hb
 have hpl1:=fun (W':World)=>plus_any (cst W col ByteArray.empty.data.toList) (bestC W K1 (colOf col ByteArray.empty.data.toList)) (by rw [e1] at hl1 ⊢;simp only [cst,ovr];omega) (by rw [e1] at hl1 ⊢;simp only [cst,lns];omega) W'
 have hkn:∀ {v:Value},courseV (bestC W K col) (choiceOf l i (bestU W K col))=v->∀ f':Value->Option Value,KnownC l W f'->KnownC l W (putF f' (.agg #[.int .i64 (i:Nat),.int .i64 (col:Nat)]) v):=fun hv' f' hk=>hv'▸hk.put (i:=i) (col:=col) hrep
 cases ok0 with
 | false =>
  obtain ⟨hu,hc⟩:=hbp1 (.inl rfl)
  have hres:courseV (bestC W K col) (choiceOf l i (bestU W K col))=.agg #[.int .i64 ((cAdd (cst W col ByteArray.empty.data.toList) (bestC W K1 (colOf col ByteArray.empty.data.toList))).1:Nat),.int .i64 ((cAdd (cst W col ByteArray.empty.data.toList) (bestC W K1 (colOf col ByteArray.empty.data.toList))).2:Nat),.int .i64 1]:=by rw [hc,hch,hu];rfl
  rw [hres]
  exact ask_no hd.len w0 hpl hnl hcs (by omega) hmf hv hlt hpc hc0 hc1 hput1 hcp1 hpl1 (hkn hres)
 | true =>
  obtain ⟨hn0,ht0,_⟩:=h0 rfl
  have hl0:=bestC_le W K0 (colOf col t0.data.toList) (hd.text_le _ i0 K0 (Nat.le_refl _) hp.1)
  have etx:t0.data.toList.length=t0.size:=by simp
  have hcl:=colOf_le t0.data.toList col
  have ho0:=ovr_le W t0.data.toList col
  have hln:=lns_le t0.data.toList
  have hcp0:∀ W':World,CS w0 gs gp bm W l W'->Calls Tryz.prog 90 #[.pointer (some ⟨gs,0,none⟩),.agg #[.int .i64 (i0:Nat),.int .i64 (colOf col t0.data.toList:Nat)]] W' (CheapTo w0 gs gp bm W l (.agg #[.int .i64 ((bestC W K0 (colOf col t0.data.toList)).1:Nat),.int .i64 ((bestC W K0 (colOf col t0.data.toList)).2:Nat),.int .i64 (choiceOf l i0 (bestU W K0 (colOf col t0.data.toList)))]) W'):=fun W' hc =>
   ih (szK K0) hz0 K0 (Nat.le_refl _) i0 _ W' hp.1 hc (by omega)
  have hput0:∀ W':World,W'.heap[gs]?=some (.cells #[.pointer (some ⟨gp,0,none⟩),.int .i64 (W:Nat),.map (some bm)] 168 (0,0))->_:=fun W' hb=>put_any (gs:=gs) (gp:=gp) (bm:=bm) (W:=W) (col:=col) (.inl hn0) (by omega) (by omega) hW W' hb
  have hpl0:=fun (W':World)=>plus_any (cst W col t0.data.toList) (bestC W K0 (colOf col t0.data.toList)) (by simp only [cst];omega) (by simp only [cst];omega) W'
  cases hun:cLess (cAdd (cst W col ByteArray.empty.data.toList) (bestC W K1 (colOf col ByteArray.empty.data.toList))) (cAdd (cst W col t0.data.toList) (bestC W K0 (colOf col t0.data.toList))) with
  | false =>
   obtain ⟨hu,hc⟩:=hbp0 ⟨rfl,hun⟩
   have hres:courseV (bestC W K col) (choiceOf l i (bestU W K col))=.agg #[.int .i64 ((cAdd (cst W col t0.data.toList) (bestC W K0 (colOf col t0.data.toList))).1:Nat),.int .i64 ((cAdd (cst W col t0.data.toList) (bestC W K0 (colOf col t0.data.toList))).2:Nat),.int .i64 0]:=by rw [hc,hch,hu];rfl
   rw [hres]
   exact ask_first hd.len w0 hpl hnl hcs (by omega) hmf hv hlt hpc hc0 hc1 hput0 hcp0 hpl0 hput1 hcp1 hpl1 (fun W'=>under_any _ _ hun W') (hkn hres)
  | true =>
   obtain ⟨hu,hc⟩:=hbp1 (.inr hun)
   have hres:courseV (bestC W K col) (choiceOf l i (bestU W K col))=.agg #[.int .i64 ((cAdd (cst W col ByteArray.empty.data.toList) (bestC W K1 (colOf col ByteArray.empty.data.toList))).1:Nat),.int .i64 ((cAdd (cst W col ByteArray.empty.data.toList) (bestC W K1 (colOf col ByteArray.empty.data.toList))).2:Nat),.int .i64 1]:=by rw [hc,hch,hu];rfl
   rw [hres]
   exact ask_second hd.len w0 hpl hnl hcs (by omega) hmf hv hlt hpc hc0 hc1 hput0 hcp0 hpl0 hput1 hcp1 hpl1 (fun W'=>under_any _ _ hun W') (hkn hres)
theorem cheap_step {l:List Nd} {x:D} (hd:Doc l x) {gp:Nat} {A:Option Addr} {c:Nat} (w0:World) (hpl:IsPlan w0 gp A c l) (hnl:Nds w0 w0.heap.size A l) {gs bm W:Nat} (hW:W<=100) (z:Nat) (ih:∀ y,y<z->CheapSaid w0 gs gp bm W l y):CheapSaid w0 gs gp bm W l z:=by
 intro K hK i col w hrep hcs hcol
 have ih':∀ y,y<szK K->CheapSaid w0 gs gp bm W l y:=fun y hy=>ih y (by omega)
 by_cases hlt:i<l.length
 ·obtain ⟨f,hmf,hkn⟩:=hcs.map
  cases hv:f (spotV i col) with
  | some v =>
   have hvv:=hkn.at_ hrep hv
   subst hvv
   exact (cheap_known hd w0 hpl hcs (by omega) hmf hv hlt).mono fun e w' ⟨he,hb⟩=>⟨he,hcs.past hb,gb_of_below hb bm⟩
  | none =>
   by_cases ho:l[i].op=8∨l[i].op=9
   ·exact cheap_ask hd w0 hpl hnl hW ih' hrep hcs hcol hmf hv hlt ho
   ·exact cheap_go hd w0 hpl hnl hW ih' hrep hcs hcol hmf hv hlt ⟨fun h=>ho (.inl h),fun h=>ho (.inr h)⟩
 ·obtain ⟨rfl,rfl⟩:=hrep.ge (by omega)
  have e:courseV (bestC W [] col) (choiceOf l l.length (bestU W [] col))=.agg #[.int .i64 0,.int .i64 0,.int .i64 0]:=by
   rw [(best_end W col).2]
   have:choiceOf l l.length (bestU W [] col)=0:=by
    unfold choiceOf
    rw [dif_neg (by omega)]
   rw [this]
   rfl
  rw [e]
  exact (cheap_end w0 hpl hcs).mono fun e w' ⟨he,hb⟩=>⟨he,hcs.past hb,gb_of_below hb bm⟩
theorem cheap_any {l:List Nd} {x:D} (hd:Doc l x) {gp:Nat} {A:Option Addr} {c:Nat} (w0:World) (hpl:IsPlan w0 gp A c l) (hnl:Nds w0 w0.heap.size A l) {gs bm W:Nat} (hW:W<=100) (z:Nat):CheapSaid w0 gs gp bm W l z:=by
 induction z using Nat.strongRecOn with
 | ind z ih=>exact cheap_step hd w0 hpl hnl hW z ih
end Go.Proofs.YtddfdmopaeghnadGreatDoor
namespace Go.Proofs.YtddfdmopaeghnadGreatDoor
open Go.RowKit
def BldK (B b:Nat) (s:ByteArray) (w:World):Prop:=Lib.IsBuilderF 88 5 B b (Lib.strCells s) w/\B<=w.heap.size
theorem BldK.new (w:World):BldK w.heap.size w.heap.size .empty (w.alloc (.cells #[.pointer none,.slice none 0 0] 88)) :=
 ⟨Lib.IsBuilderF.of (Lib.fresh_isBuilder _ _ w),by simp⟩
theorem BldK.blk {B b:Nat} {s:ByteArray} {w:World} (h:BldK B b s w):B<=b/\b<w.heap.size/\∃ cs,w.heap[b]?=some (.cells cs 88 (0,0)):=by
 rcases h.1 with hh|hh
 ·obtain ⟨h1,v,h2,_⟩:=hh;exact ⟨h1,Lib.BuilderAtF.lt ⟨h1,v,h2,by assumption⟩,_,h2⟩
 ·obtain ⟨h1,v,h2,_⟩:=hh;exact ⟨h1,Lib.BuilderAtF.lt ⟨h1,v,h2,by assumption⟩,_,h2⟩
theorem BldK.keep {B b:Nat} {s:ByteArray} {w w':World} (h:BldK B b s w) (hz:w.heap.size<=w'.heap.size) (hk:∀ (k:Nat) (o:Obj),w.heap[k]?=some o->(k=b∨∃ c fz,o=.cells c 5 fz)->w'.heap[k]?=some o):BldK B b s w':=by
 refine ⟨?_,Nat.le_trans h.2 hz⟩
 have one:∀ {p:Value},Lib.BuilderAtF 88 5 B b p (Lib.strCells s) w->Lib.BuilderAtF 88 5 B b p (Lib.strCells s) w':=by
  intro p hh
  obtain ⟨h1,v,h2,h3,h4⟩:=hh
  refine ⟨h1,v,hk b _ h2 (.inl rfl),⟨h3.1, ?_⟩,h4⟩
  rcases h3.2 with hn|⟨g,cap,cur,fz,hv,hbg,hg,rest⟩
  ·exact .inl hn
  ·exact .inr ⟨g,cap,cur,fz,hv,hbg,hk g _ hg (.inr ⟨_,_,rfl⟩),rest⟩
 rcases h.1 with hh|hh
 ·exact .inl (one hh)
 ·exact .inr (one hh)
theorem BldK.past {B b:Nat} {s:ByteArray} {w w':World} (h:BldK B b s w) (hb:Below w.heap.size w w'):BldK B b s w' :=
 h.keep hb.size (fun k _ hk _=>(hb.block k (Array.getElem?_eq_some_iff.1 hk).1).trans hk)
theorem BldK.grown {B b:Nat} {s:ByteArray} {w w':World} {row:Option Nat} (h:BldK B b s w) (hg:w.grownBy w' row) (hne:∀ g,row=some g->g≠b/\∀ c fz,w.heap[g]?≠some (.cells c 5 fz)):BldK B b s w' :=
 h.keep hg.size (fun k o hk ho=>(hg.block k (Array.getElem?_eq_some_iff.1 hk).1 (fun e=>by
  obtain ⟨h1,h2⟩:=hne k e.symm
  rcases ho with rfl|⟨c,fz,rfl⟩
  ·exact h1 rfl
  ·exact h2 c fz hk)).trans hk)
def Beside (b:Nat) (w w':World):Prop:=∀ (k:Nat) (o:Obj),w.heap[k]?=some o->k≠b->(∀ c fz,o≠.cells c 5 fz)->w'.heap[k]?=some o
theorem Beside.blk {b g:Nat} {w w':World} (h:Beside b w w') {cs:Array Value} {T:TypeId} {fr:Nat × Nat} (hg:w.heap[g]?=some (.cells cs T fr)) (hne:g≠b) (hT:T≠5):w'.heap[g]?=some (.cells cs T fr) :=
 h g _ hg hne (fun c fz e=>by cases e;exact hT rfl)
theorem Beside.own {b:Nat} {w w':World} (h:Beside b w w') {base:Nat} {e:TypeId} {size n:Nat} {v:Value} {xs:List Value} (hr:w.ownsRow base e size v n xs) (hne:v.ownBlock≠some b) (hT:e≠5):w'.ownsRow base e size v n xs:=by
 refine ⟨hr.1, ?_⟩
 rcases hr.2 with hn|⟨g,cap,cur,hv,hbg,hg,rest⟩
 ·exact .inl hn
 ·exact .inr ⟨g,cap,cur,hv,hbg,h.blk hg (fun e=>hne (by rw [hv,e];rfl)) hT,rest⟩
def BldKTo (B b n:Nat) (s:ByteArray) (w:World) (e:Ending) (w':World):Prop:=e=.returned (.tuple #[.int .i64 n,.nilIface])/\BldK B b s w'/\Below B w w'/\Beside b w w'/\w.heap.size<=w'.heap.size
theorem bldk_write (B b:Nat) (s t:ByteArray) (w:World) (h:BldK B b s w) (hlen:s.size+t.size<=140737488355328) :
  Calls Tryz.prog 35 #[.pointer (some ⟨b,0,none⟩),.string t] w (BldKTo B b t.size (s++t) w) :=
 (Any.Builder_WriteString_k bldLays166 bldExtra B b (Lib.strCells s) t w h.1 (by rw [Lib.strCells_length];exact hlen) h.2).mono fun e w' ⟨he,hb,hB,hO⟩ =>
  ⟨he,⟨by rw [← strCells_app];exact .inr hb,Nat.le_trans h.2 hB.size⟩,hB,fun k o hk hne ho=>hO k o hk (fun e=>hne (Option.some.inj e)) ho,hB.size⟩
theorem bldk_string (B b:Nat) (s:ByteArray) (w:World) (h:BldK B b s w) :
  Calls Tryz.prog 37 #[.pointer (some ⟨b,0,none⟩)] w fun e w'=>e=.returned (.string s)/\Below B w w'/\Beside b w w' :=
 (Any.Builder_String_any_k bldLays169 bldExtra B b s.data.toList w h.1 h.2).mono fun _ _ ⟨he,_,hB,hO⟩=>⟨he,hB,fun k o hk hne ho=>hO k o hk (fun e=>hne (Option.some.inj e)) ho⟩
end Go.Proofs.YtddfdmopaeghnadGreatDoor
namespace Go.Proofs.YtddfdmopaeghnadGreatDoor
open Go.RowKit Go.Maps Go.ChangeMaps
theorem int_infoB:(Tryz.prog.info? 3).map (fun i=>(i.zero,i.size,i.bytes))=some (some (.int .i64 0),1,8):=by kernel_rfl
theorem best_take {l:List Nd} {x:D} (hd:Doc l x) {gp:Nat} {A:Option Addr} {c i:Nat} {K:List (D × Int)} (hr:Rep l i K) (hi:i<l.length) (ho:l[i].op=8∨l[i].op=9) (W col:Nat) :
  ∃ (ch:Int) (t:ByteArray) (i':Nat) (K':List (D × Int)),(ch=0∨ch=1)/\bestU W K col=ch::bestU W K' (colOf col t.data.toList)/\NoNl t.data.toList/\t.size+3300*szK K'<=3300*szK K/\szK K'<szK K/\Rep l i' K' /\
   textK K (bestU W K col)=t.data.toList++textK K' (bestU W K' (colOf col t.data.toList)) /\
   (∀ w,IsPlan w gp A c l->Nds w w.heap.size A l->Calls Tryz.prog 159 #[.pointer (some ⟨gp,0,none⟩),.int .i64 i] w (Ret w (.tuple #[.string .empty,.int .i64 (i:Nat),.bool true]))) /\
   (∀ w,IsPlan w gp A c l->Nds w w.heap.size A l->Calls Tryz.prog 162 #[.pointer (some ⟨gp,0,none⟩),.int .i64 i,.int .i64 ch] w (Ret w (.tuple #[.string t,.int .i64 (i':Nat),.bool true]))):=by
 obtain ⟨t0,ok0,i0,i1,K0,K1,hp,h0,h1,hpc,hc0,hc1⟩:=best_ask (gp:=gp) (A:=A) (c:=c) hd hr hi ho
 obtain ⟨hbp0,hbp1⟩:=best_pick hp (fun h=>(h0 h).2.2) h1.2.2 W col
 by_cases hc:ok0=true/\cLess (cAdd (cst W col ByteArray.empty.data.toList) (bestC W K1 (colOf col ByteArray.empty.data.toList))) (cAdd (cst W col t0.data.toList) (bestC W K0 (colOf col t0.data.toList)))=false
 ·obtain ⟨hu,_⟩:=hbp0 hc
  obtain ⟨g1,g2,g3⟩:=h0 hc.1
  have e:=hc.1
  subst e
  exact ⟨0,t0,i0,K0,.inl rfl,hu,g1,g2,hp.2.2.1,hp.1,by rw [hu];exact textK_step (g3 _) (bestU_mem _ _ _),hpc,hc0⟩
 ·obtain ⟨hu,_⟩:=hbp1 (by
   cases ok0 with
   | false=>exact .inl rfl
   | true=>exact .inr (by
     cases hq:cLess (cAdd (cst W col ByteArray.empty.data.toList) (bestC W K1 (colOf col ByteArray.empty.data.toList))) (cAdd (cst W col t0.data.toList) (bestC W K0 (colOf col t0.data.toList))) with
     | true=>rfl
     | false=>exact absurd ⟨rfl,hq⟩ hc))
  obtain ⟨g1,g2,g3⟩:=h1
  exact ⟨1,.empty,i1,K1,.inr rfl,hu,g1,g2,hp.2.2.2.1,hp.2.1,by rw [hu];exact textK_step (g3 _) (bestU_mem _ _ _),hpc,hc1⟩
variable {w0 w w':World} {gs gp bm W:Nat} {l:List Nd}
theorem CS.grown (h:CS w0 gs gp bm W l w) {row:Option Nat} (hg:w.grownBy w' row) (h1:row≠some gs) (h2:row≠some bm) (h3:∀ k,row=some k->w0.heap.size<=k):CS w0 gs gp bm W l w':=by
 obtain ⟨f,g1,g2⟩:=h.map
 exact ⟨(hg.block gs (lt_of_heap h.blk) (Ne.symm h1)).trans h.blk,⟨f,g1.kept hg (Ne.symm h2),g2⟩,h.lowS,h.lowM,h.bel.grown hg h.bel.size h3⟩
theorem CS.beside (h:CS w0 gs gp bm W l w) {B b:Nat} (hb:Beside b w w') (hB:Below B w w') (h1:b≠gs) (h2:b≠bm) (h0:w0.heap.size<=B):CS w0 gs gp bm W l w':=by
 obtain ⟨f,⟨es,clock,g1,g2⟩,g3⟩:=h.map
 exact ⟨hb.blk h.blk (Ne.symm h1) (by decide),⟨f,⟨es,clock,hb bm _ g1 (Ne.symm h2) (fun _ _ e=>by cases e),g2⟩,g3⟩,h.lowS,h.lowM,h.bel.trans (hB.mono h0)⟩
theorem CS.notCells (h:CS w0 gs gp bm W l w) {base:Nat} {e:TypeId} {size n:Nat} {v:Value} {xs:List Value} (hr:w.ownsRow base e size v n xs):v.ownBlock≠some bm:=by
 obtain ⟨f,⟨es,clock,hb,_⟩,_⟩:=h.map
 rcases hr.2 with ⟨rfl,_⟩|⟨g,cap,cur,rfl,_,hg,_⟩
 ·simp [Value.ownBlock]
 ·intro e1
  simp [Value.ownBlock] at e1
  subst e1
  rw [hg] at hb
  cases hb
theorem CS.notBytes (h:CS w0 gs gp bm W l w):∀ c fz,w.heap[bm]?≠some (.cells c 5 fz):=by
 obtain ⟨f,⟨es,clock,hb,_⟩,_⟩:=h.map
 intro c fz e1
 rw [e1] at hb
 cases hb
theorem row_notBytes {base:Nat} {e:TypeId} {size n:Nat} {v:Value} {xs:List Value} (hr:w.ownsRow base e size v n xs) (he:e≠5) {g:Nat} (hg:v.ownBlock=some g):∀ c fz,w.heap[g]?≠some (.cells c 5 fz):=by
 rcases hr.2 with ⟨rfl,_⟩|⟨g',cap,cur,rfl,_,hgg,_⟩
 ·simp [Value.ownBlock] at hg
 ·simp [Value.ownBlock] at hg
  subst hg
  intro c fz e1
  rw [hgg] at e1
  cases e1
  exact he rfl
theorem row_base {base:Nat} {e:TypeId} {size n:Nat} {v:Value} {xs:List Value} (hr:w.ownsRow base e size v n xs) {g:Nat} (hg:v.ownBlock=some g):base<=g:=by
 rcases hr.2 with ⟨rfl,_⟩|⟨g',cap,cur,rfl,hb,_⟩
 ·simp [Value.ownBlock] at hg
 ·simp [Value.ownBlock] at hg
  omega
def spotOf (wr:World):Value->Nat
 | .pointer (some p)=>match wr.cell? p with
  | some (.int _ n)=>n.toNat
  | _=>0
 | _=>0
structure FL (w0:World) (gs gp bm W:Nat) (l:List Nd) (B:Nat) (UU:List Int) (TT:List UInt8) (q colq bx:Nat) (K:List (D × Int)) (ws:List Int) (acc:ByteArray) (v5:Value) (wr:World):Prop where
 spot:wr.heap[bx]?=some (.cells #[.int .i64 (q:Nat),.int .i64 (colq:Nat)] 173 (0,0))
 own:wr.ownsRow B 3 1 v5 ws.length (ws.map (.int .i64))
 rep:Rep l q K
 text:acc.data.toList++textK K (bestU W K colq)=TT
 ways:ws++bestU W K colq=UU
 colb:colq+3300*szK K<=2000000
 accb:acc.size+3300*szK K<=1400000
 wsb:ws.length+szK K<=400
 bld:BldK B B acc wr
 cs:CS w0 gs gp bm W l wr
 lowB:w0.heap.size<=B
 neS:gs<B
 neM:bm<B
 neX:B<bx
theorem FL.past {B q colq bx:Nat} {UU:List Int} {TT:List UInt8} {K:List (D × Int)} {ws:List Int} {acc:ByteArray} {v5:Value} (h:FL w0 gs gp bm W l B UU TT q colq bx K ws acc v5 w) (hb:Below w.heap.size w w'):FL w0 gs gp bm W l B UU TT q colq bx K ws acc v5 w' :=
 ⟨blk_below h.spot hb,own_below h.own hb,h.rep,h.text,h.ways,h.colb,h.accb,h.wsb,h.bld.past hb,h.cs.past hb,h.lowB,h.neS,h.neM,h.neX⟩
theorem FL.cheap {B q colq bx:Nat} {UU:List Int} {TT:List UInt8} {K:List (D × Int)} {ws:List Int} {acc:ByteArray} {v5:Value} (h:FL w0 gs gp bm W l B UU TT q colq bx K ws acc v5 w) (hc:CS w0 gs gp bm W l w') (hg:w.grownBy w' (some bm)):FL w0 gs gp bm W l B UU TT q colq bx K ws acc v5 w':=by
 have h1:=h.neM;have h2:=h.neX
 exact ⟨blk_gb h.spot hg (by omega),h.own.kept hg (.inr (h.cs.notCells h.own)),h.rep,h.text,h.ways,h.colb,h.accb,h.wsb,h.bld.grown hg (fun g e=>by cases e;exact ⟨by omega,h.cs.notBytes⟩),hc,h.lowB,h.neS,h.neM,h.neX⟩
theorem spotOf_of {w:World} {b:Nat} {n:Int} {k:IntKind} {y:Value} {T:TypeId} {fr:Nat × Nat} (h:w.heap[b]?=some (.cells #[.int k n,y] T fr)):spotOf w (.pointer (some ⟨b,0,none⟩))=n.toNat:=by
 have:=blk_cell (j:=0) h
 simp at this
 simp [spotOf,this]
theorem set_grownB (w:World) (g:Nat) (j:Nat) (v:Value):w.grownBy (w.setCell ⟨g,j,none⟩ v) (some g) :=
 ⟨rfl,rfl,rfl,by simp [World.setCell],fun i _ hi=>Below.heap_setCell _ _ _ _ (fun e=>hi (by rw [e]))⟩
theorem own_sliceB {w:World} {base:Nat} {e:TypeId} {size n:Nat} {v:Value} {xs:List Value} (h:w.ownsRow base e size v n xs):∃ A c,v=.slice A n c:=by
 rcases h.2 with ⟨rfl,rfl⟩|⟨g,cap,cur,rfl,_⟩
 ·exact ⟨none,0,rfl⟩
 ·exact ⟨_,_,rfl⟩
theorem FL.turn {B q colq bx nx col':Nat} {UU:List Int} {TT:List UInt8} {K':List (D × Int)} {ws':List Int} {acc':ByteArray} {v5':Value} (hx:w.heap[bx]?=some (.cells #[.int .i64 (q:Nat),.int .i64 (colq:Nat)] 173 (0,0)))
  (ho:w.ownsRow B 3 1 v5' ws'.length (ws'.map (.int .i64))) (hr:Rep l nx K') (ht:acc'.data.toList++textK K' (bestU W K' col')=TT) (hw:ws'++bestU W K' col'=UU) (h1:col'+3300*szK K'<=2000000) (h2:acc'.size+3300*szK K'<=1400000) (h3:ws'.length+szK K'<=400)
  (hb:BldK B B acc' w) (hc:CS w0 gs gp bm W l w) (hl:w0.heap.size<=B) (hS:gs<B) (hM:bm<B) (hX:B<bx) (o:Obj) :
  FL w0 gs gp bm W l B UU TT nx col' (w.heap.size+1) K' ws' acc' v5' ((((w.setCell ⟨bx,0,none⟩ (.int .i64 (nx:Nat))).setCell ⟨bx,1,none⟩ (.int .i64 (col':Nat))).alloc o).alloc (.cells #[.int .i64 (nx:Nat),.int .i64 (col':Nat)] 173)):=by
 have hsz:((w.setCell ⟨bx,0,none⟩ (.int .i64 (nx:Nat))).setCell ⟨bx,1,none⟩ (.int .i64 (col':Nat))).heap.size=w.heap.size:=by simp [World.setCell]
 have hgr:w.grownBy ((w.setCell ⟨bx,0,none⟩ (.int .i64 (nx:Nat))).setCell ⟨bx,1,none⟩ (.int .i64 (col':Nat))) (some bx):=grown_trans (set_grownB _ bx 0 _) (set_grownB _ bx 1 _)
 have hal:∀ {W':World} (o':Obj),Below W'.heap.size W' (W'.alloc o'):=fun _=>(Below.refl _ _).alloc (Nat.le_refl _) _
 have hcb:CS w0 gs gp bm W l ((w.setCell ⟨bx,0,none⟩ (.int .i64 (nx:Nat))).setCell ⟨bx,1,none⟩ (.int .i64 (col':Nat))) :=
  hc.grown hgr (by intro e;cases e;omega) (by intro e;cases e;omega) (fun k e=>by cases e;omega)
 have hbb:BldK B B acc' ((w.setCell ⟨bx,0,none⟩ (.int .i64 (nx:Nat))).setCell ⟨bx,1,none⟩ (.int .i64 (col':Nat))):=hb.grown hgr (fun g e=>by
  cases e
  refine ⟨by omega,fun c fz e2=>?_⟩
  rw [hx] at e2
  cases e2)
 exact ⟨heap_new (by simp [hsz]),own_below (own_below (ho.kept hgr (.inr (row_blk ho hx (by decide)))) (hal _)) (hal _),hr,ht,hw,h1,h2,h3,(hbb.past (hal _)).past (hal _),(hcb.past (hal _)).past (hal _),hl,hS,hM,by have:=lt_of_heap hx;omega⟩
def FollowTo (w0:World) (W:Nat) (x:D) (e:Ending) (w':World):Prop:=∃ A c,e=.returned (.tuple #[.string (bT W x),.slice A (bU W x).length c])/\NumsI w' w'.heap.size A (bU W x)/\(bU W x).length<=c/\Below w0.heap.size w0 w'/\∀ p:Addr,A=some p->w0.heap.size<=p.block
theorem rq39 {P:Prop} (h:P:=by
 rw [spotOf_of HSQ.out]
 refine Nat.lt_of_le_of_lt (Nat.le_of_eq ?_) HML.out
 rw [spotOf_of (FIN.out _).spot]
 simp):P:=h
theorem follow_any {l:List Nd} {x:D} (hd:Doc l x) {gp:Nat} {A:Option Addr} {c:Nat} (w0:World) (hpl:IsPlan w0 gp A c l) (hnl:Nds w0 w0.heap.size A l) {gs bm W:Nat} (hW:W<=100) {w:World} (hcs:CS w0 gs gp bm W l w) :
  Calls Tryz.prog 91 #[.pointer (some ⟨gs,0,none⟩)] w (FollowTo w0 W x):=by
 obtain ⟨iI,hiI,hzI,hzI1,hzI2⟩:=info_parts int_infoB
 have h400:=hd.len
 have hszx:x.sz=l.length:=hd.szx
 obtain ⟨UU,hUU⟩:∃ UU,UU=bU W x:=⟨_,rfl⟩
 obtain ⟨TT,hTT⟩:∃ TT,TT=textK [(x,0)] (bU W x):=⟨_,rfl⟩
 have hsl:=lt_of_heap hcs.blk
 have hml:=hcs.mlt
 have hlow:=hcs.bel.size
 have HFL0:Hid (FL w0 gs gp bm W l w.heap.size UU TT 0 0 (w.heap.size+1) [(x,0)] [] .empty (.slice none 0 0) ((w.alloc (.cells #[.pointer none,.slice none 0 0] 88)).alloc (.cells #[.int .i64 0,.int .i64 0] 173))):=by
  have ha:Below w.heap.size w (w.alloc (.cells #[.pointer none,.slice none 0 0] 88)):=(Below.refl _ _).alloc (Nat.le_refl _) _
  have hb:Below (w.alloc (.cells #[.pointer none,.slice none 0 0] 88)).heap.size (w.alloc (.cells #[.pointer none,.slice none 0 0] 88)) ((w.alloc (.cells #[.pointer none,.slice none 0 0] 88)).alloc (.cells #[.int .i64 0,.int .i64 0] 173)):=(Below.refl _ _).alloc (Nat.le_refl _) _
  exact ⟨heap_new (by simp),⟨by simp,.inl ⟨rfl,rfl⟩⟩,hd.rep0,by rw [hTT];simp [bU],by rw [hUU];simp [bU],by simp only [szK];omega,by simp only [szK,ByteArray.size_empty];omega,by simp only [szK,List.length_nil];omega,(BldK.new w).past hb,(hcs.past ha).past hb,hlow,hsl,hml,Nat.lt_succ_self _⟩
 have HD:=hd_ hd;have HUU:=hd_ hUU;have HTT:=hd_ hTT
 have HPN:Hid (∀ W',Below w0.heap.size w0 W'->IsPlan W' gp A c l/\Nds W' W'.heap.size A l):=hd_ (fun W' hb=>⟨hpl.past hb,hnl.past hb⟩)
 have HCA:=hd_ (fun z=>cheap_any hd w0 hpl hnl (gs:=gs) (bm:=bm) hW z)
 clear hd hUU hTT hcs hpl hnl
 go_enter Tryz.func91,Tryz.ntmps91
 go_wp2_with fail
 go_loopw [5,6] (fun s5 s6 wr=>∃ (q colq bx:Nat) (K:List (D × Int)) (ws:List Int) (acc:ByteArray),s6=.pointer (some ⟨bx,0,none⟩)/\FL w0 gs gp bm W l w.heap.size UU TT q colq bx K ws acc s5 wr) (fun _ s6 wr=>leftOf l (spotOf wr s6))
 case atStart=>exact ⟨0,0,w.heap.size+1,[(x,0)],[],.empty,rfl,HFL0.out⟩
 case round =>
  obtain ⟨q,colq,bx,K,ws,acc,rfl,hF⟩:=hrel
  have HF:=hd_ hF
  have HPW:Hid (∀ W',Below wr.heap.size wr W'->IsPlan W' gp A c l/\Nds W' W'.heap.size A l):=hd_ (fun W' hb=>HPN.out W' (hF.cs.bel.trans (hb.mono hF.cs.bel.size)))
  obtain ⟨gn,gd,ge,gf',gi,cf,ci,hpa⟩:=(HPW.out wr (Below.refl _ _)).1
  have z0:=hpa.c0
  have e0:=blk_cell (j:=0) hF.cs.blk
  have e1:=blk_cell (j:=0) hF.spot
  simp at e0 e1
  have hneS:=hF.neS;have hneM:=hF.neM;have hneX:=hF.neX;have hcolb:=hF.colb;have haccb:=hF.accb;have hwsb:=hF.wsb
  obtain ⟨A5,c5,h5⟩:=own_sliceB hF.own
  subst h5
  clear hpa HFL0
  by_cases hlt:q<l.length
  ·have k1:decide (q<l.length)=true:=decide_eq_true hlt
   have k2:decide ((q:Int)<(l.length:Int))=true:=decide_eq_true (by omega)
   have hmlt:∀ {nx:Nat} {K':List (D × Int)},Rep l nx K'->szK K'<szK K->leftOf l nx<leftOf l q:=fun h1 h2=>by rw [leftOf_eq h1,leftOf_eq hF.rep];exact h2
   by_cases hop:l[q].op=8∨l[q].op=9
   ·obtain ⟨ch,t,nx,K',h01,hbu,hnl,hts,hsz,hr',htx,hpc,hcc⟩:=best_take (gp:=gp) (A:=A) (c:=c) HD.out hF.rep hlt hop W colq
    have HPC:=hd_ hpc;have HCC0:=hd_ hcc;have HRP:=hd_ hr'
    have HML:Hid (leftOf l nx<leftOf l q):=hd_ (hmlt hr' hsz)
    have HWY:Hid ((ws++[ch])++bestU W K' (colOf colq t.data.toList)=UU):=hd_ (by rw [← hF.ways,hbu];simp)
    have HTX:Hid ((acc++t).data.toList++textK K' (bestU W K' (colOf colq t.data.toList))=TT):=hd_ (by rw [← hF.text,htx,toList_app];simp)
    have hco:=colOf_le t.data.toList colq
    have etx:t.data.toList.length=t.size:=by simp
    rw [etx] at hco
    have HPT:=hd_ (fun (W':World) hb=>put_any (gs:=gs) (gp:=gp) (bm:=bm) (W:=W) (col:=colq) (.inl hnl) (by omega) (by omega) hW W' hb)
    have HCH:=hd_ (fun (W':World) (hc:CS w0 gs gp bm W l W')=>HCA.out (szK K) K (Nat.le_refl _) q colq W' hF.rep hc hF.colb)
    have hcv:courseV (bestC W K colq) (choiceOf l q (bestU W K colq))=.agg #[.int .i64 ((bestC W K colq).1:Nat),.int .i64 ((bestC W K colq).2:Nat),.int .i64 ch]:=by
     unfold choiceOf courseV
     rw [dif_pos hlt,if_pos hop,hbu]
     rfl
    rw [hcv] at HCH
    unfold spotV at HCH
    have hws1:(ws++[ch]).length=ws.length+1:=by simp
    generalize colOf colq t.data.toList=colN at *
    generalize bestC W K colq=BC at *
    clear hpc hcc hr' hbu hnl htx etx hcv hmlt
    have hfld:=course_choice
    clear hF
    go_wp2_with fail
    go_quiet (fail)
    go_wp2_with fail
    go_region_held3 (fun w'=>w'.cell? ⟨gs,0,none⟩=some (.pointer (some ⟨gp,0,none⟩))/\w'.cell? ⟨bx,0,none⟩=some (.int .i64 (q:Nat)))
     (first|exact ⟨e0,e1⟩|exact ⟨e0',e1'⟩)
     ((go_at_call 159;refine (HPC.out _ (HPW.out _ bel_).1 (HPW.out _ bel_).2).mono ?_;rintro e w4 ⟨rfl,hB4⟩;have e0':=(hB4.cell (p:=⟨gs,0,none⟩) (lt_of_heap HF.out.cs.blk)).trans e0;have e1':=(hB4.cell (p:=⟨bx,0,none⟩) (lt_of_heap HF.out.spot)).trans e1))
    have hB34:Below wr.heap.size wr w4:=by first|exact hB4|exact past_drew hB4|exact past_drewN hB4
    have F4:=hd_ (HF.out.past hB34)
    have HSQ:=hd_ HF.out.spot
    clear hB4 hB34 e0 e1 e0' e1'
    have s0:=blk_cell (j:=0) F4.out.spot
    have s1:=blk_cell (j:=1) F4.out.spot
    simp at s0 s1
    go_wp2_with (go_at_call 90;refine (HCH.out _ F4.out.cs).mono ?_;rintro e w5 ⟨rfl,hc5,hg5⟩)
    have F5:=hd_ (F4.out.cheap hc5 hg5)
    have HPW5:Hid (∀ W',Below w5.heap.size w5 W'->IsPlan W' gp A c l/\Nds W' W'.heap.size A l):=hd_ (fun W' hb=>HPN.out W' (hc5.bel.trans (hb.mono hc5.bel.size)))
    have e0:=blk_cell (j:=0) F5.out.cs.blk
    have e1:=blk_cell (j:=0) F5.out.spot
    simp at e0 e1
    clear hc5 hg5 s0 s1 F4 hfld
    go_region_held3 (fun w'=>w'.cell? ⟨gs,0,none⟩=some (.pointer (some ⟨gp,0,none⟩))/\w'.cell? ⟨bx,0,none⟩=some (.int .i64 (q:Nat)))
     (first|exact ⟨e0,e1⟩|exact ⟨e0',e1'⟩)
     ((go_at_call 162;refine (HCC0.out _ (HPW5.out _ bel_).1 (HPW5.out _ bel_).2).mono ?_;rintro e w6 ⟨rfl,hB6⟩;have e0':=(hB6.cell (p:=⟨gs,0,none⟩) (lt_of_heap F5.out.cs.blk)).trans e0;have e1':=(hB6.cell (p:=⟨bx,0,none⟩) (lt_of_heap F5.out.spot)).trans e1))
    have hB56:Below w5.heap.size w5 w6:=by first|exact hB6|exact past_drew hB6|exact past_drewN hB6
    have F6:=hd_ (F5.out.past hB56)
    have hsz6:=F6.out.cs.bel.size
    have hB6s:w.heap.size<=w6.heap.size:=Nat.le_of_lt (Nat.lt_trans hneX (lt_of_heap F6.out.spot))
    clear hB6 hB56 e0 e1 e0' e1' F5
    go_upto_region 10 with (at_builtin;refine wpList_app _ rfl (.tmp 53) (.tmp 55) _ rfl w.heap.size 3 iI (.int .i64 0) 1 8 Tryz.underlying73 hiI hzI hzI1 hzI2 rfl (by decide) _ ws.length _ rfl (World.ownsRow.alloc F6.out.own _) _ _ 1 1 [.int .i64 ch] rfl (Sl.lit (sz:=1) _ #[.int .i64 ch] 3 1 rfl) (by simp [Value.oneCell']) (by simp only [maxLen];omega) (by omega) (by simp;omega) ?_;intro v7 w7 hown7 hg7 hat7;obtain ⟨A7,c7,hv7⟩:=own_sliceB hown7;subst hv7;have HG7:=hd_ hg7;have HW7:=hd_ hown7;clear hown7 hg7 hat7)
    have hF:=F6.out
    have hal:Below w6.heap.size w6 (w6.alloc (.cells #[.int .i64 ch] 3)):=(Below.refl _ _).alloc (Nat.le_refl _) _
    have F6a:=hF.past hal
    have hrow:=F6a.own
    have HCC:=hd_ (F6a.cs.grown HG7.out (row_blk hrow F6a.cs.blk (by decide)) (F6a.cs.notCells hrow) (fun k e=>by have:=row_base hrow e;omega))
    have HSP:=hd_ (blk_app hrow F6a.spot (by decide) HG7.out)
    have HOW:Hid (w7.ownsRow w.heap.size 3 1 (.slice A7 (ws.length+1) c7) (ws++[ch]).length ((ws++[ch]).map (.int .i64))):=hd_ (by rw [hws1,List.map_append];exact HW7.out)
    have HBL:=hd_ (F6a.bld.grown HG7.out (fun g e=>⟨fun e2=>row_blk hrow (F6a.bld.blk.2.2.choose_spec) (by decide) (e2▸e),row_notBytes hrow (by decide) e⟩))
    clear hal F6a hrow HG7 HW7 F6 hsz6 hB6s
    go_wp2_with (first
     | (go_at_call 35;refine (bldk_write _ _ _ _ _ HBL.out (by omega)).mono ?_;rintro e w8 ⟨rfl,hb8,hB8,hO8,hz8⟩;have HO8:=hd_ hO8;have HB8:=hd_ hB8;have HBL8:=hd_ hb8;have hx8:=hO8.blk HSP.out (by omega) (by decide);have HX8:=hd_ hx8;have x1:=blk_cell (j:=1) hx8;simp at x1;have HC8:=hd_ (HCC.out.beside hO8 hB8 (by omega) (by omega) hF.lowB);clear hb8 hB8 hO8 hx8)
     | (go_at_call 160;refine (HPT.out _ HC8.out.blk).mono ?_;rintro e w9 ⟨rfl,hB9⟩;have hx9:=blk_below HX8.out hB9;have HX9:=hd_ hx9;have m0:=blk_cell (j:=0) hx9;have m1:=blk_cell (j:=1) hx9;have m2:=blk_free (j:=0) hx9;have m3:=blk_free (j:=1) hx9;simp at m0 m1;have HB9:=hd_ hB9;have hlx:=lt_of_heap hx9;clear hx9 hB9))
    have hC9:=HC8.out.past HB9.out
    have hOw8:=HO8.out.own HOW.out (by intro e1;exact row_blk HOW.out (HBL.out.blk.2.2.choose_spec) (by decide) e1) (by decide)
    have hOw9:=own_below hOw8 HB9.out
    have hBl9:=HBL8.out.past HB9.out
    have hlow:=HC8.out.bel.size
    have FIN:=hd_ (fun (o:Obj)=>FL.turn (nx:=nx) (col':=_) HX9.out hOw9 HRP.out HTX.out HWY.out (by omega) (by rw [ByteArray.size_append];omega) (by omega) hBl9 hC9 hF.lowB hF.neS hF.neM hF.neX o)
    go_roundw
    case rel=>exact ⟨nx,_,_,K',ws++[ch],_,rfl,FIN.out _⟩
    case measure =>
     exact rq39
   ·obtain ⟨t,nx,K',hst,hwk,hpt,hpc⟩:=best_go (gp:=gp) (A:=A) (c:=c) HD.out hF.rep hlt ⟨fun h=>hop (.inl h),fun h=>hop (.inr h)⟩
    obtain ⟨hbu,_⟩:=best_step hst hwk W colq
    have hsz:=hst.2.1
    have hts:=hst.2.2.1
    have HPC:=hd_ hpc;have HRP:=hd_ hst.1
    have HML:Hid (leftOf l nx<leftOf l q):=hd_ (hmlt hst.1 hsz)
    have HWY:Hid (ws++bestU W K' (colOf colq t.data.toList)=UU):=hd_ (by rw [← hF.ways,hbu])
    have HTX:Hid ((acc++t).data.toList++textK K' (bestU W K' (colOf colq t.data.toList))=TT):=hd_ (by rw [← hF.text,textK_step (hst.2.2.2 _) (hwk▸bestU_mem W K colq),toList_app,hbu];simp)
    have hco:=colOf_le t.data.toList colq
    have etx:t.data.toList.length=t.size:=by simp
    rw [etx] at hco
    have HPT:=hd_ (fun (W':World) hb=>put_any (gs:=gs) (gp:=gp) (bm:=bm) (W:=W) (col:=colq) hpt (by omega) (by omega) hW W' hb)
    generalize colOf colq t.data.toList=colN at *
    clear hpc hst hwk hpt hbu etx hmlt
    clear hF
    go_wp2_with fail
    go_quiet (fail)
    go_wp2_with fail
    go_region_held3 (fun w'=>w'.cell? ⟨gs,0,none⟩=some (.pointer (some ⟨gp,0,none⟩))/\w'.cell? ⟨bx,0,none⟩=some (.int .i64 (q:Nat)))
     (first|exact ⟨e0,e1⟩|exact ⟨e0',e1'⟩)
     ((go_at_call 159;refine (HPC.out _ (HPW.out _ bel_).1 (HPW.out _ bel_).2).mono ?_;rintro e w4 ⟨rfl,hB4⟩;have e0':=(hB4.cell (p:=⟨gs,0,none⟩) (lt_of_heap HF.out.cs.blk)).trans e0;have e1':=(hB4.cell (p:=⟨bx,0,none⟩) (lt_of_heap HF.out.spot)).trans e1))
    have hB34:Below wr.heap.size wr w4:=by first|exact hB4|exact past_drew hB4|exact past_drewN hB4
    have F4:=hd_ (HF.out.past hB34)
    have HSQ:=hd_ HF.out.spot
    clear hB4 hB34 e0 e1 e0' e1'
    have hF:=F4.out
    have HCC:=hd_ hF.cs;have HSP:=hd_ hF.spot;have HOW:=hd_ hF.own;have HBL:=hd_ hF.bld
    clear F4
    go_wp2_with (first
     | (go_at_call 35;refine (bldk_write _ _ _ _ _ HBL.out (by omega)).mono ?_;rintro e w8 ⟨rfl,hb8,hB8,hO8,hz8⟩;have HO8:=hd_ hO8;have HB8:=hd_ hB8;have HBL8:=hd_ hb8;have hx8:=hO8.blk HSP.out (by omega) (by decide);have HX8:=hd_ hx8;have x1:=blk_cell (j:=1) hx8;simp at x1;have HC8:=hd_ (HCC.out.beside hO8 hB8 (by omega) (by omega) hF.lowB);clear hb8 hB8 hO8 hx8)
     | (go_at_call 160;refine (HPT.out _ HC8.out.blk).mono ?_;rintro e w9 ⟨rfl,hB9⟩;have hx9:=blk_below HX8.out hB9;have HX9:=hd_ hx9;have m0:=blk_cell (j:=0) hx9;have m1:=blk_cell (j:=1) hx9;have m2:=blk_free (j:=0) hx9;have m3:=blk_free (j:=1) hx9;simp at m0 m1;have HB9:=hd_ hB9;have hlx:=lt_of_heap hx9;clear hx9 hB9))
    have hC9:=HC8.out.past HB9.out
    have hOw8:=HO8.out.own HOW.out (by intro e1;exact row_blk HOW.out (HBL.out.blk.2.2.choose_spec) (by decide) e1) (by decide)
    have hOw9:=own_below hOw8 HB9.out
    have hBl9:=HBL8.out.past HB9.out
    have hlow:=HC8.out.bel.size
    have FIN:=hd_ (fun (o:Obj)=>FL.turn (nx:=nx) (col':=_) HX9.out hOw9 HRP.out HTX.out HWY.out (by omega) (by rw [ByteArray.size_append];omega) (by omega) hBl9 hC9 hF.lowB hF.neS hF.neM hF.neX o)
    go_roundw
    case rel=>exact ⟨nx,_,_,K',ws,_,rfl,FIN.out _⟩
    case measure =>
     exact rq39
  ·obtain ⟨rfl,hql⟩:=hF.rep.ge (by omega)
   have k1:decide (q<l.length)=false:=decide_eq_false hlt
   have k2:decide ((q:Int)<(l.length:Int))=false:=decide_eq_false (by omega)
   have hu0:=(best_end W colq).1
   have hws:ws=UU:=by have:=hF.ways;rw [hu0] at this;simpa using this
   have hac:acc=bT W x:=by
    have:=hF.text
    rw [hu0] at this
    have e3:textK ([]:List (D × Int)) []=[]:=rfl
    rw [e3,List.append_nil,HTT.out,← bT_toList] at this
    exact ByteArray.ext (Array.ext' this)
   subst hac
   have HWS:=hd_ hws
   clear hF hws hu0 hql
   go_wp2_with fail
   go_quiet (fail)
   go_wp2_with (go_at_call 37;refine (bldk_string _ _ _ _ (HF.out.bld.past bel_)).mono ?_;rintro e w5 ⟨rfl,hB5,hO5⟩)
   go_ret2
   refine ⟨A5,c5, ?_, ?_, ?_, ?_, ?_⟩
   ·rw [HWS.out,HUU.out];rfl
   ·have e4:bU W x=ws:=by rw [HWS.out,HUU.out]
    rw [e4]
    have ho:w5.ownsRow w.heap.size 3 1 (.slice A5 ws.length c5) ws.length (ws.map (.int .i64)):=hO5.own (own_below HF.out.own bel_) (fun e1=>row_blk HF.out.own (HF.out.bld.blk.2.2.choose_spec) (by decide) e1) (by decide)
    exact NumsI.own ho rfl (by simp only [maxLen];omega)
   ·have e4:bU W x=ws:=by rw [HWS.out,HUU.out]
    rw [e4]
    exact own_cap HF.out.own
   ·have hb0:=HF.out.cs.bel
    exact Below.trans bel_ (hB5.mono HF.out.lowB)
   ·rintro p rfl
    exact Nat.le_trans HF.out.lowB (row_base HF.out.own rfl)
def BestIs_ (W:Nat) (x:D) (p1 p2:Nat) (w:World) (e:Ending) (w':World):Prop:=∃ A c,e=.returned (.tuple #[.string (bT W x),.slice A (bU W x).length c,.agg #[.int .i64 (p1:Nat),.int .i64 (p2:Nat)],.nilIface])/\NumsI w' w'.heap.size A (bU W x)/\(bU W x).length<=c/\Below w.heap.size w w'
def BestIsF (W:Nat) (x:D) (p1 p2:Nat) (w:World) (e:Ending) (w':World):Prop:=∃ A c,e=.returned (.tuple #[.string (bT W x),.slice A (bU W x).length c,.agg #[.int .i64 (p1:Nat),.int .i64 (p2:Nat)],.nilIface])/\NumsI w' w'.heap.size A (bU W x)/\(bU W x).length<=c/\Below w.heap.size w w'/\∀ p:Addr,A=some p->w.heap.size<=p.block
def BestToF (W:Nat) (x:D) (w:World) (e:Ending) (w':World):Prop:=BestIsF W x (bC W x).1 (bC W x).2 w e w'
def BestTo (W:Nat) (x:D) (w:World) (e:Ending) (w':World):Prop:=BestIs_ W x (bC W x).1 (bC W x).2 w e w'
theorem cell_same {w:World} {p q:Addr} {v:Value} (h:w.cell? p=some v):(w.setCell p v).cell? q=w.cell? q:=by
 by_cases e:q=p
 ·subst e
  rw [h]
  exact World.cell?_setCell_same' _ _ _ (by rw [h];rfl)
 ·exact World.cell?_setCell_other _ _ _ _ (Ne.symm e)
theorem nums_same {w:World} {A:Option Addr} {u:List Int} (h:NumsI w w.heap.size A u) {p:Addr} {v:Value} (hp:w.cell? p=some v):NumsI (w.setCell p v) (w.setCell p v).heap.size A u:=by
 have hs:(w.setCell p v).heap.size=w.heap.size:=by simp [World.setCell]
 rw [hs]
 exact ⟨h.1.keep (fun q _=>cell_same hp),h.2⟩
theorem CS.rebase {w0 w:World} {gs gp bm W:Nat} {l:List Nd} (h:CS w0 gs gp bm W l w) {p:Addr} (hp:p.block<w0.heap.size) (v:Value):CS (w0.setCell p v) gs gp bm W l (w.setCell p v):=by
 obtain ⟨f,g1,g2⟩:=h.map
 have hs:(w0.setCell p v).heap.size=w0.heap.size:=by simp [World.setCell]
 have hl:=h.lowS;have hm:=h.lowM
 refine ⟨blk_set h.blk p v (by omega),⟨f,g1.of_block ?_,g2⟩,by omega,by omega,⟨h.bel.os,h.bel.tape,h.bel.output,by simpa [World.setCell] using h.bel.size,fun i hi=>?_⟩⟩
 ·simp [World.setCell,Array.getElem?_modify]
  intro e;omega
 ·have:=h.bel.block i (by omega)
  simp only [World.setCell,Array.getElem?_modify]
  rw [this]
theorem Nds.set {w:World} {A:Option Addr} {l:List Nd} {B:Nat} (h:Nds w B A l) (p:Addr) (hp:B<=p.block) (v:Value):Nds (w.setCell p v) B A l :=
 ⟨h.1.keep (fun q hq=>World.cell?_setCell_other _ _ _ _ (fun e=>by subst e;omega)),h.2⟩
theorem Nds.more {w:World} {A:Option Addr} {l:List Nd} {B B':Nat} (h:Nds w B A l) (hB:B<=B'):Nds w B' A l:=⟨h.1.more hB,h.2⟩
theorem best_goodF (hof:OfFromSaid) {l:List Nd} {x:D} (hd:Doc l x) (A:Option Addr) (n c:Nat) (hn:l.length=n) (W:Nat) {width:Int} (hwd:width=W) (hW:W<=100) (w:World) (hl:Nds w w.heap.size A l) :
  Calls Tryz.prog 48 #[.slice A n c,.int .i64 width] w (BestToF W x w):=by
 subst hn hwd
 have hchk:=hd.check
 have hFO:=fun (w0:World) (gp:Nat) (hpl:IsPlan w0 gp A c l) (hnl:Nds w0 w0.heap.size A l) (gs bm:Nat) (w':World) (hcs:CS w0 gs gp bm W l w')=>follow_any hd w0 hpl hnl hW hcs
 have hCH:=fun (w0:World) (gp:Nat) (hpl:IsPlan w0 gp A c l) (hnl:Nds w0 w0.heap.size A l) (gs bm:Nat) (w':World) (hcs:CS w0 gs gp bm W l w')=>cheap_any hd w0 hpl hnl hW (szK [(x,0)]) [(x,0)] (Nat.le_refl _) 0 0 w' hd.rep0 hcs (by have:=hd.len;have:=hd.szx;simp only [szK];omega)
 have hcv:courseV (bestC W [(x,0)] 0) (choiceOf l 0 (bestU W [(x,0)] 0))=.agg #[.int .i64 ((bC W x).1:Nat),.int .i64 ((bC W x).2:Nat),.int .i64 (choiceOf l 0 (bestU W [(x,0)] 0))]:=rfl
 rw [hcv] at hCH
 unfold spotV at hCH
 generalize choiceOf l 0 (bestU W [(x,0)] 0)=ch at *
 unfold BestToF
 obtain ⟨p1,hp1⟩:∃ p1,p1=(bC W x).1:=⟨_,rfl⟩
 obtain ⟨p2,hp2⟩:∃ p2,p2=(bC W x).2:=⟨_,rfl⟩
 rw [← hp1,← hp2] at hCH ⊢
 have HFO:=hd_ hFO;have HCH:=hd_ hCH;have HN:=hd_ hl;have HD:=hd_ hd;have HOF:=hd_ hof;have HCK:=hd_ hchk
 have k1:decide ((W:Int)<0)=false:=decide_eq_false (by omega)
 have k2:decide (100<(W:Int))=false:=decide_eq_false (by omega)
 have hmm:=@run_makeMap Tryz.prog
 have hfld:=course_cost
 have hr0:(w.alloc (.cells #[.int .i64 0,.int .i64 0] 113)).heap[w.heap.size]?=some (.cells #[.int .i64 0,.int .i64 0] 113 (0,0)):=heap_new rfl
 have HR0:=hd_ hr0
 clear hFO hCH hl hd hof hcv hp1 hp2 hr0 hchk
 go_enter Tryz.func48,Tryz.ntmps48
 go_wp2_with (first
  | (go_at_call 88;refine (check_any l A c _ (HN.out.past bel_)).mono ?_;rintro e w1 ⟨rfl,hB1⟩;rw [← errV_zero HCK.out];have hB1':Below w.heap.size w w1:=((Below.refl _ _).alloc (Nat.le_refl _) _).trans (hB1.mono (by simp));have HR1:=hd_ (blk_below HR0.out hB1);have HB1:=hd_ hB1';have HN1:=hd_ (HN.out.past hB1');clear hB1 hB1')
  | (go_at_call 89;refine (HOF.out l x A c _ HN1.out HD.out).mono ?_;rintro e w2 ⟨gp,rfl,hpf,hB2⟩;have HR2:=hd_ (blk_below HR1.out hB2);have HN2:=hd_ (HN1.out.past hB2);have HPF:=hd_ hpf;have HB2:=hd_ hB2;clear hpf hB2)
  | (go_at_call 90;refine (HCH.out w2 gp HPF.out.plan HN2.out _ _ _ (CS.new w2 gp W l)).mono ?_;rintro e w4 ⟨rfl,hc4,hg4⟩;have hR4:=blk_gb' hg4 (blk_below (blk_below HR2.out ((Below.refl _ _).alloc (Nat.le_refl _) (.map #[] 0))) ((Below.refl _ _).alloc (Nat.le_refl _) _)) (by have:=lt_of_heap HR2.out;omega);have HR4:=hd_ hR4;have HC4:=hd_ hc4;have m0:=blk_cell (j:=0) hR4;have m1:=blk_cell (j:=1) hR4;have m2:=blk_free (j:=0) hR4;have m3:=blk_free (j:=1) hR4;simp at m0 m1;clear hc4 hg4 hR4))
 have hRlt:w.heap.size<w1.heap.size:=lt_of_heap HR1.out
 have hw12:=HB2.out.size
 have hB12:Below w.heap.size w w2:=HB1.out.trans (HB2.out.mono HB1.out.size)
 have HNB:Nds w2 w.heap.size A l:=⟨HN.out.1.below hB12 (Nat.le_refl _),HN.out.2⟩
 obtain ⟨w0,hw0⟩:∃ w0,w0=(w2.setCell ⟨w.heap.size,0,none⟩ (.int .i64 (p1:Nat))).setCell ⟨w.heap.size,1,none⟩ (.int .i64 (p2:Nat)):=⟨_,rfl⟩
 have hz0:w0.heap.size=w2.heap.size:=by rw [hw0];simp [World.setCell]
 have hN0:Nds w0 w0.heap.size A l:=by
  rw [hz0,hw0]
  exact ((HNB.set ⟨w.heap.size,0,none⟩ (Nat.le_refl _) _).set ⟨w.heap.size,1,none⟩ (Nat.le_refl _) _).more (by omega)
 have hP0:IsPlan w0 gp A c l:=by
  rw [hw0]
  exact ((HPF.out.set ⟨w.heap.size,0,none⟩ hRlt _).set ⟨w.heap.size,1,none⟩ hRlt _).plan
 have hC0:CS w0 (w2.heap.size+1) gp w2.heap.size W l ((w4.setCell ⟨w.heap.size,0,none⟩ (.int .i64 (p1:Nat))).setCell ⟨w.heap.size,1,none⟩ (.int .i64 (p2:Nat))):=by
  rw [hw0]
  exact (HC4.out.rebase (p:=⟨w.heap.size,0,none⟩) (by simp only;omega) _).rebase (p:=⟨w.heap.size,1,none⟩) (by simp only [World.setCell,Array.size_modify];omega) _
 have hR0':w0.heap[w.heap.size]?=some (.cells #[.int .i64 (p1:Nat),.int .i64 (p2:Nat)] 113 (0,0)):=by
  rw [hw0]
  exact blk_set2 HR2.out
 have hb0:Below w.heap.size w w0:=by
  rw [hw0]
  exact (hB12.setCell (p:=⟨w.heap.size,0,none⟩) (Nat.le_refl _) _).setCell (p:=⟨w.heap.size,1,none⟩) (Nat.le_refl _) _
 have HN0:=hd_ hN0;have HP0:=hd_ hP0;have HC0:=hd_ hC0;have HR0':=hd_ hR0';have HB0:=hd_ hb0
 clear hN0 hP0 hC0 hR0' hb0 HNB hB12 hw0 m0 m1 m2 m3 hfld hmm
 refine (HFO.out w0 gp HP0.out HN0.out _ _ _ HC0.out).mono ?_
 rintro e w5 ⟨A5,c5,rfl,hn5,hc5,hB5,hf5⟩
 have HF5:=hd_ hf5
 clear hf5
 have hR5:=blk_below HR0'.out hB5
 have HR5:=hd_ hR5
 have r0:=blk_cell (j:=0) hR5
 have r1:=blk_cell (j:=1) hR5
 have r2:=blk_free (j:=0) hR5
 have r3:=blk_free (j:=1) hR5
 simp at r0 r1
 have HN5:=hd_ hn5;have HB5:=hd_ hB5
 clear hn5 hB5 hR5
 go_wp2_with fail
 have hset:∀ n:Nat,(((w5.drewN n).setCell ⟨w.heap.size,0,none⟩ (.int .i64 (p1:Nat))).setCell ⟨w.heap.size,1,none⟩ (.int .i64 (p2:Nat))).cell? ⟨w.heap.size,0,none⟩=some (.int .i64 (p1:Nat))/\(((w5.drewN n).setCell ⟨w.heap.size,0,none⟩ (.int .i64 (p1:Nat))).setCell ⟨w.heap.size,1,none⟩ (.int .i64 (p2:Nat))).cell? ⟨w.heap.size,1,none⟩=some (.int .i64 (p2:Nat)):=fun n=>by
  have:=blk_set2 (w:=w5.drewN n) (p:=.int .i64 (p1:Nat)) (q:=.int .i64 (p2:Nat)) HR5.out
  exact ⟨blk_cell (j:=0) this,blk_cell (j:=1) this⟩
 have HST:=hd_ hset
 clear hset
 go_region_held3 (fun w'=>w'.cell? ⟨w.heap.size,0,none⟩=some (.int .i64 (p1:Nat))/\w'.cell? ⟨w.heap.size,1,none⟩=some (.int .i64 (p2:Nat)))
  (first|exact ⟨r0,r1⟩|exact HST.out _|exact HST.out 1) (fail)
 go_wp2_with fail
 simp [bodyPost,results,Tryz.results48,go_sem,r0,r1]
 have hB05:Below w.heap.size w w5:=HB0.out.trans (HB5.out.mono HB0.out.size)
 refine ⟨A5,c5, ?_, ?_,hc5, ?_, ?_⟩
 ·rfl
 ·refine nums_same (p:=⟨w.heap.size,1,none⟩) (nums_same (p:=⟨w.heap.size,0,none⟩) ?_ ?_) ?_
  ·exact HN5.out
  ·exact r0
  ·exact (cell_same r0).trans r1
 ·exact ((hB05.setCell (p:=⟨w.heap.size,0,none⟩) (Nat.le_refl _) _).setCell (p:=⟨w.heap.size,1,none⟩) (Nat.le_refl _) _).drew
 ·exact fun p hp=>Nat.le_trans HB0.out.size (HF5.out p hp)
theorem best_good (hof:OfFromSaid) {l:List Nd} {x:D} (hd:Doc l x) (A:Option Addr) (n c:Nat) (hn:l.length=n) (W:Nat) {width:Int} (hwd:width=W) (hW:W<=100) (w:World) (hl:Nds w w.heap.size A l) :
  Calls Tryz.prog 48 #[.slice A n c,.int .i64 width] w (BestTo W x w) :=
 (best_goodF hof hd A n c hn W hwd hW w hl).mono fun _ _ ⟨A',c',h1,h2,h3,h4,_⟩=>⟨A',c',h1,h2,h3,h4⟩
end Go.Proofs.YtddfdmopaeghnadGreatDoor
namespace Go.Proofs.YtddfdmopaeghnadGreatDoor
open Go.RowKit
theorem of_part1:of_pre.1:=by
 intro l x A c w h400 i0 iS hiS hzS hzS1 hzS2 iT hiT hzT hzT1 hzT2 hmk HM HN HD zK_0 za_0 zJ_0 zKq_0 za_1 za_2
 go_region_with (go_at_call 156;refine (ends_any l x A c _ (HN.out.past bel_) HD.out).mono ?_;rintro e w2 ⟨g2,rfl,hown2,hB2⟩;have HW2:=hd_ hown2;clear hown2)
 all_goals go_wp2_with fail
 all_goals go_meet
 all_goals
  refine ps_mk (by first|rfl|(simp;done)) (by have:=hB2.size;simp at this ⊢;first|done|omega) ?_ ?_ ?_ (by have:=hB2.size;have:=(HW2.out.lt g2 rfl).1;simp at *;first|done|omega) (by have:=hB2.size;have:=(HW2.out.lt g2 rfl);simp at *;first|done|omega) (by have:=hB2.size;have:=(HW2.out.lt g2 rfl);simp at *;first|done|omega) ?_
  ·(repeat (first|((refine own_made ?_ ?_ HM.out);(focus (first|rfl|(simp;done)));(focus (have hq:=hB2.size;first|omega|(simp at hq ⊢;done)|(simp at hq ⊢;omega))))|apply World.ownsRow.alloc|refine own_below ?_ hB2))
  ·(repeat (first|((refine own_made ?_ ?_ HM.out);(focus (first|rfl|(simp;done)));(focus (have hq:=hB2.size;first|omega|(simp at hq ⊢;done)|(simp at hq ⊢;omega))))|apply World.ownsRow.alloc|refine own_below ?_ hB2))
  ·(repeat (first|exact own_more HW2.out (by simp;first|done|omega)|apply World.ownsRow.alloc))
  ·have hsz:=hB2.size
   (repeat (first|exact Below.refl _ _|apply Below.drew|refine below_drewN ?_ _|(refine Below.alloc ?_ (by simp at *;first|done|omega) _)|(refine Below.trans ?_ (hB2.mono (by simp;first|done|omega)))))
theorem of_from (l:List Nd) (x:D) (A:Option Addr) (c:Nat) (w:World) (hl:Nds w w.heap.size A l) (hd:Doc l x) :
  Calls Tryz.prog 89 #[.slice A l.length c] w (OfFrom l A c w) :=
 of_pre.2.2.2 of_part1 of_part2 of_part3 l x A c w hl hd
end Go.Proofs.YtddfdmopaeghnadGreatDoor
