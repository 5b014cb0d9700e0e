/- Plain facts: the words of a text; a text behind a text; words that stand each in a line of its own. With what it rests on. Conditions: as each theorem states them. -/
import Derived.Test.YtddfdmopaeghnadGreatDoorDqTr
set_option maxRecDepth 100000
set_option maxHeartbeats 16000000
namespace Go.Proofs.YtddfdmopaeghnadGreatDoor
variable {P Q:Prop}
section
def lowB (c:UInt8):Bool:=decide (97<=c.toNat)&&decide (c.toNat<=122)
def c6_ (c:UInt8):Bool:=decide (48<=c.toNat)&&decide (c.toNat<=57)
def prB (c:UInt8):Bool:=decide (32<=c.toNat)&&decide (c.toNat<=126)
def nlB (c:UInt8):Bool:=!(c==10)
def aX_ (p:UInt8->Bool):List UInt8->Nat
 | []=>0
 | c::r=>if p c then aX_ p r+1 else 0
def bZ_:List UInt8:=[40,41,91,93,44,43,42,61,59]
def aZ_:List UInt8->Nat × Bool
 | []=>(0,false)
 | c::r =>
  if lowB c then (aX_ lowB (c::r),decide (aX_ lowB (c::r)<=8))
  else if c6_ c then (aX_ c6_ (c::r),decide (aX_ c6_ (c::r)<=6)&&(decide (aX_ c6_ (c::r)=1)||!(c==48)))
  else if c==35 then (aX_ nlB (c::r),decide (aX_ nlB (c::r)<=aX_ prB (c::r)))
  else (1,bZ_.contains c)
theorem c9_ (c:UInt8) (r:List UInt8):aZ_ (c::r) =
  if lowB c then (aX_ lowB (c::r),decide (aX_ lowB (c::r)<=8))
  else if c6_ c then (aX_ c6_ (c::r),decide (aX_ c6_ (c::r)<=6)&&(decide (aX_ c6_ (c::r)=1)||!(c==48)))
  else if c==35 then (aX_ nlB (c::r),decide (aX_ nlB (c::r)<=aX_ prB (c::r)))
  else (1,bZ_.contains c):=rfl
def blank (c:UInt8):Bool:=c==32
def bJ_ (l:List UInt8):List UInt8:=(l.reverse.dropWhile blank).reverse
def lY_:Nat->Nat->List UInt8->List (Nat × List UInt8) × Option Nat
 | 0,_,_=>([],none)
 | _+1,_,[]=>([],none)
 | f+1,i,c::r =>
  if c==32||c==10 then lY_ f (i+1) r
  else if (aZ_ (c::r)).2 then
   ((i,bJ_ ((c::r).take (aZ_ (c::r)).1))::(lY_ f (i+(aZ_ (c::r)).1) ((c::r).drop (aZ_ (c::r)).1)).1,
    (lY_ f (i+(aZ_ (c::r)).1) ((c::r).drop (aZ_ (c::r)).1)).2)
  else ([],some i)
theorem tN_ (p:UInt8->Bool) (l:List UInt8):aX_ p l<=l.length:=by
 induction l with
 | nil=>simp [aX_]
 | cons c r ih=>unfold aX_;split <;> simp <;> omega
theorem hF_ {c:UInt8} {r:List UInt8} (h:(aZ_ (c::r)).2=true):0<(aZ_ (c::r)).1/\(aZ_ (c::r)).1<=(c::r).length:=by
 rw [c9_] at h ⊢
 split
 ·rename_i hc;exact ⟨by simp [aX_,hc],tN_ _ _⟩
 ·split
  ·rename_i hc;exact ⟨by simp [aX_,hc],tN_ _ _⟩
  ·split
   ·rename_i hc
    refine ⟨?_,tN_ _ _⟩
    have:c=35:=by simpa using hc
    subst this
    simp [aX_,nlB]
   ·simp
theorem afL_:∀ (f g i:Nat) (l:List UInt8),l.length<=f->l.length<=g->lY_ f i l=lY_ g i l:=by
 intro f
 induction f with
 | zero =>
  intro g i l hf _
  obtain rfl:l=[]:=List.eq_nil_of_length_eq_zero om_
  cases g <;> rfl
 | succ f ih =>
  intro g i l hf hg
  cases g with
  | zero =>
   obtain rfl:l=[]:=List.eq_nil_of_length_eq_zero om_
   rfl
  | succ g =>
   cases l with
   | nil=>rfl
   | cons c r =>
    simp only [List.length_cons] at hf hg
    simp only [lY_]
    split
    ·exact ih g _ r om_ om_
    ·split
     ·rename_i h
      have hp:=hF_ h
      rw [ih g (i+(aZ_ (c::r)).1) ((c::r).drop (aZ_ (c::r)).1) (by rw [List.length_drop,List.length_cons];omega) (by rw [List.length_drop,List.length_cons];omega)]
     ·rfl
def dX_ (i:Nat) (l:List UInt8):List (Nat × List UInt8) × Option Nat:=lY_ l.length i l
theorem iV_ (i:Nat):dX_ i []=([],none):=rfl
theorem jL_ {i:Nat} {c:UInt8} {r:List UInt8} (h:(c==32||c==10)=true):dX_ i (c::r)=dX_ (i+1) r:=by
 unfold dX_;rw [List.length_cons,lY_,if_pos h]
theorem kN_ {i:Nat} {c:UInt8} {r:List UInt8} (h:(c==32||c==10)=false) (hb:(aZ_ (c::r)).2=false):dX_ i (c::r)=([],some i):=by
 unfold dX_;rw [List.length_cons,lY_,if_neg (by simp [h]),if_neg (by simp [hb])]
theorem g8_ {i:Nat} {c:UInt8} {r:List UInt8} (h:(c==32||c==10)=false) (hb:(aZ_ (c::r)).2=true) :
  dX_ i (c::r)=((i,bJ_ ((c::r).take (aZ_ (c::r)).1))::(dX_ (i+(aZ_ (c::r)).1) ((c::r).drop (aZ_ (c::r)).1)).1,(dX_ (i+(aZ_ (c::r)).1) ((c::r).drop (aZ_ (c::r)).1)).2):=by
 have hp:=hF_ hb
 unfold dX_
 rw [List.length_cons,lY_,if_neg (by simp [h]),if_pos hb]
 rw [afL_ r.length ((c::r).drop (aZ_ (c::r)).1).length _ _ (by rw [List.length_drop,List.length_cons];omega) (Nat.le_refl _)]
theorem gJ_ {l:List UInt8} (h:∀ c ∈ l,blank c=false):bJ_ l=l:=by
 unfold bJ_
 have:l.reverse.dropWhile blank=l.reverse:=by
  cases hr:l.reverse with
  | nil=>rfl
  | cons c r =>
   have hc:blank c=false:=h c (by rw [← List.mem_reverse,hr];simp)
   rw [List.dropWhile_cons,hc];rfl
 rw [this,List.reverse_reverse]
theorem adT_ (l:List UInt8):bJ_ (bJ_ l)=bJ_ l:=by
 unfold bJ_
 rw [List.reverse_reverse]
 congr 1
 generalize l.reverse=m
 induction m with
 | nil=>rfl
 | cons c r ih =>
  rw [List.dropWhile_cons]
  split
  ·exact ih
  ·rename_i hc;rw [List.dropWhile_cons,if_neg hc]
theorem lS_ (l:List UInt8):∃ k,l=bJ_ l++List.replicate k 32:=by
 unfold bJ_
 have:∀ m:List UInt8,∃ k,m=List.replicate k 32++m.dropWhile blank:=by
  intro m
  induction m with
  | nil=>exact ⟨0,rfl⟩
  | cons c r ih =>
   rw [List.dropWhile_cons]
   split
   ·rename_i hc
    have:c=32:=by simpa [blank] using hc
    obtain ⟨k,hk⟩:=ih
    exact ⟨k+1,by rw [this,List.replicate_succ,List.cons_append,← hk]⟩
   ·exact ⟨0,by simp⟩
 obtain ⟨k,hk⟩:=this l.reverse
 refine ⟨k, ?_⟩
 have:=congrArg List.reverse hk
 rw [List.reverse_reverse,List.reverse_append,List.reverse_replicate] at this
 exact this
theorem lK_ {p:UInt8->Bool} (l:List UInt8):∀ c ∈ l.take (aX_ p l),p c=true:=by
 induction l with
 | nil=>simp [aX_]
 | cons c r ih =>
  intro d hd
  unfold aX_ at hd
  split at hd
  ·rename_i hc
   rw [List.take_succ_cons] at hd
   rcases List.mem_cons.1 hd with rfl|hd
   ·exact hc
   ·exact ih d hd
  ·simp at hd
theorem j4_ {p:UInt8->Bool} {l:List UInt8} (h:∀ c ∈ l,p c=true):aX_ p l=l.length:=by
 induction l with
 | nil=>rfl
 | cons c r ih =>
  rw [aX_,if_pos (h c si_),ih (fun d hd=>h d (by simp [hd]))];rfl
theorem p1_ {p:UInt8->Bool} (l:List UInt8) (n:Nat) (h:n<=aX_ p l):∀ c ∈ l.take n,p c=true:=by
 intro c hc
 refine lK_ l c ?_
 obtain ⟨i,hi,rfl⟩:=List.mem_iff_getElem.1 hc
 rw [List.length_take] at hi
 rw [List.getElem_take]
 refine List.mem_iff_getElem.2 ⟨i,by rw [List.length_take];omega,by rw [List.getElem_take]⟩
structure rG_ (w:List UInt8):Prop where
 pos:0<w.length
 lex:∀ i,dX_ i w=([(i,w)],none)
theorem k2_ {i:Nat} {c:UInt8} {r:List UInt8} (h:(c==32||c==10)=false) (hf:aZ_ (c::r)=((c::r).length,true)) (ht:bJ_ (c::r)=c::r):dX_ i (c::r)=([(i,c::r)],none):=by
 rw [g8_ h (by rw [hf]),hf]
 simp only [List.take_length,List.drop_length,ht,iV_]
theorem s4_ {c:UInt8} (h:lowB c=true):(c==32||c==10)=false/\blank c=false:=by
 have hc:97<=c.toNat:=by unfold lowB at h;simp at h;omega
 have h1:c≠32:=by rintro rfl;simp at hc
 have h2:c≠10:=by rintro rfl;simp at hc
 simp [blank,h1,h2]
theorem m9_ {c:UInt8} (h:c6_ c=true):(c==32||c==10)=false/\blank c=false/\lowB c=false:=by
 have hc:48<=c.toNat/\c.toNat<=57:=by unfold c6_ at h;simp at h;omega
 have h1:c≠32:=by rintro rfl;simp at hc
 have h2:c≠10:=by rintro rfl;simp at hc
 refine ⟨by simp [h1,h2],by simp [blank,h1], ?_⟩
 unfold lowB;simp;omega
theorem apQ_ {c:UInt8} {r:List UInt8} (hc:(c==32||c==10)=false) (hb:(aZ_ (c::r)).2=true):rG_ (bJ_ ((c::r).take (aZ_ (c::r)).1)):=by
 have hp:=hF_ hb
 rw [c9_] at hb hp ⊢
 by_cases h1:lowB c=true
 ·rw [if_pos h1] at hb hp ⊢
  simp only at hb hp ⊢
  have ha:=lK_ (p:=lowB) (c::r)
  rw [gJ_ fun d hd=>(s4_ (ha d hd)).2]
  have hl:((c::r).take (aX_ lowB (c::r))).length=aX_ lowB (c::r):=by rw [List.length_take];omega
  have hhd:(c::r).take (aX_ lowB (c::r))=c::r.take (aX_ lowB (c::r)-1):=by
   conv=>lhs;rw [show aX_ lowB (c::r)=(aX_ lowB (c::r)-1)+1 by omega]
   rw [List.take_succ_cons]
  refine ⟨by omega,fun i=>?_⟩
  have hall:=j4_ ha
  generalize hq:r.take (aX_ lowB (c::r)-1)=q at *
  rw [hhd] at ha hl hall ⊢
  refine k2_ hc ?_ (gJ_ fun d hd=>(s4_ (ha d hd)).2)
  rw [c9_]
  rw [if_pos h1,hall]
  rw [hl]
  simp only [hb]
 ·rw [if_neg h1] at hb hp ⊢
  by_cases h2:c6_ c=true
  ·rw [if_pos h2] at hb hp ⊢
   simp only at hb hp ⊢
   have ha:=lK_ (p:=c6_) (c::r)
   rw [gJ_ fun d hd=>(m9_ (ha d hd)).2.1]
   have hl:((c::r).take (aX_ c6_ (c::r))).length=aX_ c6_ (c::r):=by rw [List.length_take];omega
   have hhd:(c::r).take (aX_ c6_ (c::r))=c::r.take (aX_ c6_ (c::r)-1):=by
    conv=>lhs;rw [show aX_ c6_ (c::r)=(aX_ c6_ (c::r)-1)+1 by omega]
    rw [List.take_succ_cons]
   refine ⟨by omega,fun i=>?_⟩
   have hall:=j4_ ha
   generalize hq:r.take (aX_ c6_ (c::r)-1)=q at *
   rw [hhd] at ha hl hall ⊢
   refine k2_ hc ?_ (gJ_ fun d hd=>(m9_ (ha d hd)).2.1)
   rw [c9_]
   rw [if_neg h1,if_pos h2,hall]
   rw [hl]
   simp only [hb]
  ·rw [if_neg h2] at hb hp ⊢
   by_cases h3:(c==35)=true
   ·rw [if_pos h3] at hb hp ⊢
    simp only at hb hp ⊢
    have ec:c=35:=by simpa using h3
    subst ec
    have hle:aX_ nlB (35::r)<=aX_ prB (35::r):=by simpa using hb
    have ha:=lK_ (p:=nlB) (35::r)
    have hb2:=p1_ (p:=prB) (35::r) _ hle
    obtain ⟨k,hk⟩:=lS_ ((35::r).take (aX_ nlB (35::r)))
    have hid:=adT_ ((35::r).take (aX_ nlB (35::r)))
    have hne:bJ_ ((35::r).take (aX_ nlB (35::r)))≠[]:=by
     intro he
     rw [he,List.nil_append] at hk
     have:(35:UInt8) ∈ List.replicate k (32:UInt8):=by
      rw [← hk,show aX_ nlB (35::r)=(aX_ nlB (35::r)-1)+1 by omega,List.take_succ_cons];simp
     have:=List.eq_of_mem_replicate this
     exact absurd this de_
    generalize bJ_ ((35::r).take (aX_ nlB (35::r)))=w at *
    have h35:((35::r).take (aX_ nlB (35::r))).head?=some 35:=by
     rw [show aX_ nlB (35::r)=(aX_ nlB (35::r)-1)+1 by omega,List.take_succ_cons];rfl
    cases w with
    | nil=>exact absurd rfl hne
    | cons d q =>
     rw [hk] at ha hb2 h35
     simp at h35
     subst h35
     refine ⟨by simp,fun i=>k2_ hc ?_ hid⟩
     have e1:=j4_ (p:=nlB) (l:=35::q) fun c hc=>ha c (List.mem_append_left _ hc)
     have e2:=j4_ (p:=prB) (l:=35::q) fun c hc=>hb2 c (List.mem_append_left _ hc)
     rw [c9_]
     rw [if_neg h1,if_neg h2,if_pos h3,e1,e2]
     simp
   ·rw [if_neg h3] at hb hp ⊢
    simp only at hb hp ⊢
    have ht:(c::r).take 1=[c]:=rfl
    have hnb:blank c=false:=by
     cases h:blank c with
     | false=>rfl
     | true=>unfold blank at h;simp [h] at hc
    rw [ht,gJ_ (by simpa using hnb)]
    refine ⟨by simp,fun i=>k2_ hc ?_ (gJ_ (by simpa using hnb))⟩
    rw [c9_]
    rw [if_neg h1,if_neg h2,if_neg h3,hb];rfl
theorem lD_:∀ (n i:Nat) (s:List UInt8),s.length<=n->∀ p ∈ (dX_ i s).1,rG_ p.2:=by
 intro n
 induction n with
 | zero =>
  intro i s hn p hp
  obtain rfl:s=[]:=List.eq_nil_of_length_eq_zero om_
  simp [iV_] at hp
 | succ n ih =>
  intro i s hn p hp
  cases s with
  | nil=>simp [iV_] at hp
  | cons c r =>
   simp only [List.length_cons] at hn
   cases hc:(c==32||c==10) with
   | true=>rw [jL_ hc] at hp;exact ih _ r om_ p hp
   | false =>
    cases hb:(aZ_ (c::r)).2 with
    | false=>rw [kN_ hc hb] at hp;simp at hp
    | true =>
     rw [g8_ hc hb] at hp
     rcases List.mem_cons.1 hp with rfl|hp
     ·exact apQ_ hc hb
     ·exact ih _ _ (by have:=hF_ hb;rw [List.length_drop,List.length_cons];omega) p hp
end
section
def d6_:List ByteArray->Nat
 | []=>0
 | t::r=>(if t.data.toList.head?=some 35 then 0 else 1)+d6_ r
theorem acY_ {l:List ByteArray} {k:Nat} (hk:k<l.length):d6_ (l.take (k+1))=d6_ (l.take k)+if l[k].data.toList.head?=some 35 then 0 else 1:=by
 induction l generalizing k with
 | nil=>simp at hk
 | cons t r ih =>
  cases k with
  | zero=>simp [d6_]
  | succ k =>
   have hk':k<r.length:=by simpa using hk
   simp only [List.take_succ_cons,d6_,ih hk',List.getElem_cons_succ];omega
theorem ajJ_ (l:List ByteArray):d6_ l<=l.length:=by
 induction l with
 | nil=>simp [d6_]
 | cons t r ih=>simp only [d6_,List.length_cons];split <;> omega
end
section
open Go.RowKit
theorem aaN_ {p:UInt8->Bool} {l:List UInt8} {k:Nat} (ha:(l.take k).all p=true) (hk:k<l.length) (hp:p l[k]=false):aX_ p l=k:=by
 induction l generalizing k with
 | nil=>simp at hk
 | cons c r ih =>
  cases k with
  | zero=>simp at hp;simp [aX_,hp]
  | succ k =>
   simp only [List.take_succ_cons,List.all_cons,Bool.and_eq_true] at ha
   rw [aX_,if_pos ha.1,ih ha.2 (by simpa using hk) (by simpa using hp)]
theorem nS_ {p:UInt8->Bool} {s:ByteArray} {k:Nat} (ha:(s.data.toList.take k).all p=true) (hk:s.size<=k) (hk2:k<=s.size):aX_ p s.data.toList=k:=by
 have h:=m6_ ha hk
 rw [j4_ (fun c hc=>List.all_eq_true.1 h c hc)]
 simp;omega
theorem lJ_ {p:UInt8->Bool} {s:ByteArray} {k:Nat} (ha:(s.data.toList.take k).all p=true) (hk:k<s.size) (hp:p s[k]=false):aX_ p s.data.toList=k :=
 aaN_ ha (by simpa using hk) hp
theorem iC_ (h:P:=by
 go_ret
 first
 |
  exact ⟨rfl,rfl⟩
  done
 |
  exact ⟨by rw [HG.out];rfl,rfl⟩
  done
 |
  exact ⟨by rw [HZ.out];rfl,rfl⟩
  done
 |
  exact ⟨by first|rfl|(simp;done)|(simp;omega),rfl⟩):P:=h
theorem mY_ (h:P:=by
 subst hb;clear h
 first
 |
  go_enter Tryz.func123,Tryz.ntmps123
  go_wp2
  exact iC_
  done
 |
  go_enter Tryz.func125,Tryz.ntmps125
  go_wp2
  exact iC_
  done
 |
  go_enter Tryz.func179,Tryz.ntmps179
  go_wp2
  exact iC_):P:=h
theorem lC_ {c:UInt8} {b:Bool} (h:lowB c=b) (w:World):Calls Tryz.prog 123 #[.int .u8 (c.toNat:Int)] w fun e w'=>e=.returned (.bool b)/\w=w':=by
 have hc:=c.toNat_lt
 generalize hn:c.toNat=n at *
 unfold lowB at h
 rw [hn] at h
 clear hn
 have hcs:n<97∨122<n∨(97<=n/\n<=122):=by omega
 rcases hcs with h1|h1|⟨h1,h2⟩
 ·have hb:b=false:=by rw [← h];simp;omega
  exact mY_
 ·have hb:b=false:=by rw [← h];simp;omega
  have h3:97<=n:=by omega
  exact mY_
 ·have hb:b=true:=by rw [← h];simp;omega
  exact mY_
theorem mT_ {c:UInt8} {b:Bool} (h:c6_ c=b) (w:World):Calls Tryz.prog 125 #[.int .u8 (c.toNat:Int)] w fun e w'=>e=.returned (.bool b)/\w=w':=by
 have hc:=c.toNat_lt
 generalize hn:c.toNat=n at *
 unfold c6_ at h
 rw [hn] at h
 clear hn
 have hcs:n<48∨57<n∨(48<=n/\n<=57):=by omega
 rcases hcs with h1|h1|⟨h1,h2⟩
 ·have hb:b=false:=by rw [← h];simp;omega
  exact mY_
 ·have hb:b=false:=by rw [← h];simp;omega
  have h3:48<=n:=by omega
  exact mY_
 ·have hb:b=true:=by rw [← h];simp;omega
  exact mY_
theorem ahH_ {c:UInt8} {b:Bool} (h:prB c=b) (w:World):Calls Tryz.prog 179 #[.int .u8 (c.toNat:Int)] w fun e w'=>e=.returned (.bool b)/\w=w':=by
 have hc:=c.toNat_lt
 generalize hn:c.toNat=n at *
 unfold prB at h
 rw [hn] at h
 clear hn
 have hcs:n<32∨126<n∨(32<=n/\n<=126):=by omega
 rcases hcs with h1|h1|⟨h1,h2⟩
 ·have hb:b=false:=by rw [← h];simp;omega
  exact mY_
 ·have hb:b=false:=by rw [← h];simp;omega
  have h3:32<=n:=by omega
  exact mY_
 ·have hb:b=true:=by rw [← h];simp;omega
  exact mY_
theorem uX_ {c:UInt8} {b:Bool} (h:nlB c=b) (w:World):Calls Tryz.prog 178 #[.int .u8 (c.toNat:Int)] w fun e w'=>e=.returned (.bool b)/\w=w':=by
 have hn:nlB c=!((c.toNat:Int)==10):=by
  unfold nlB
  congr 1
  rw [Bool.eq_iff_iff]
  simp only [beq_iff_eq]
  constructor
  ·rintro rfl;rfl
  ·intro h
   have h10:c.toNat=10:=by omega
   exact UInt8.toNat_inj.1 (by rw [h10];rfl)
 rw [h] at hn
 generalize c.toNat=n at *
 cases b with
 | true =>
  have h1:((n:Int)==10)=false:=by simpa using hn
  have h2:((n:Int) != 10)=true:=by simpa using hn
  clear hn h
  go_enter Tryz.func178,Tryz.ntmps178
  go_wp2
  exact iC_
 | false =>
  have h1:((n:Int)==10)=true:=by simpa using hn
  have h2:((n:Int) != 10)=false:=by simpa using hn
  clear hn h
  go_enter Tryz.func178,Tryz.ntmps178
  go_wp2
  exact iC_
theorem dr77 (h:P:=by
 go_round
 case rel=>exact ⟨k+1,by omega,by go_num,HG.out⟩
 case measure=>exact me_):P:=h
theorem dr80 (h:P:=by
 obtain ⟨k,hk,rfl,ha⟩:=hrel
 have HA:=hd_ ha;clear ha
 by_cases hlt:k<s.size
 first
 |
  ·cases hb:lowB s[k] with
   | true =>
    have HC:=hd_ (lC_ hb)
    have HG:=hd_ (h0_ HA.out hlt hb);clear hb
    go_wp2_with (go_at_call 123;refine (HC.out _).mono ?_;rintro e w' ⟨rfl,rfl⟩)
    exact dr77
   | false =>
    have HC:=hd_ (lC_ hb)
    have HG:=hd_ (lJ_ HA.out hlt hb);clear hb
    go_wp2_with (go_at_call 123;refine (HC.out _).mono ?_;rintro e w' ⟨rfl,rfl⟩)
    exact iC_
  ·have HG:=hd_ (nS_ HA.out om_ hk)
   go_wp2
   exact iC_
  done
 |
  ·cases hb:c6_ s[k] with
   | true =>
    have HC:=hd_ (mT_ hb)
    have HG:=hd_ (h0_ HA.out hlt hb);clear hb
    go_wp2_with (go_at_call 125;refine (HC.out _).mono ?_;rintro e w' ⟨rfl,rfl⟩)
    exact dr77
   | false =>
    have HC:=hd_ (mT_ hb)
    have HG:=hd_ (lJ_ HA.out hlt hb);clear hb
    go_wp2_with (go_at_call 125;refine (HC.out _).mono ?_;rintro e w' ⟨rfl,rfl⟩)
    exact iC_
  ·have HG:=hd_ (nS_ HA.out om_ hk)
   go_wp2
   exact iC_
  done
 |
  ·cases hb:prB s[k] with
   | true =>
    have HC:=hd_ (ahH_ hb)
    have HG:=hd_ (h0_ HA.out hlt hb);clear hb
    go_wp2_with (go_at_call 179;refine (HC.out _).mono ?_;rintro e w' ⟨rfl,rfl⟩)
    exact dr77
   | false =>
    have HC:=hd_ (ahH_ hb)
    have HG:=hd_ (lJ_ HA.out hlt hb);clear hb
    go_wp2_with (go_at_call 179;refine (HC.out _).mono ?_;rintro e w' ⟨rfl,rfl⟩)
    exact iC_
  ·have HG:=hd_ (nS_ HA.out om_ hk)
   go_wp2
   exact iC_
  done
 |
  ·cases hb:nlB s[k] with
   | true =>
    have HC:=hd_ (uX_ hb)
    have HG:=hd_ (h0_ HA.out hlt hb);clear hb
    go_wp2_with (go_at_call 178;refine (HC.out _).mono ?_;rintro e w' ⟨rfl,rfl⟩)
    exact dr77
   | false =>
    have HC:=hd_ (uX_ hb)
    have HG:=hd_ (lJ_ HA.out hlt hb);clear hb
    go_wp2_with (go_at_call 178;refine (HC.out _).mono ?_;rintro e w' ⟨rfl,rfl⟩)
    exact iC_
  ·have HG:=hd_ (nS_ HA.out om_ hk)
   go_wp2
   exact iC_):P:=h
theorem zK_ (s:ByteArray) (w:World) (hs:s.size<=maxLen):Calls Tryz.prog 124 #[.func (.func 123) #[] #[],.string s] w fun e w'=>e=.returned (.int .i64 (aX_ lowB s.data.toList:Nat))/\w=w':=by
 unfold maxLen at hs
 go_enter Tryz.func124,Tryz.ntmps124
 go_wp2
 go_loop [5] (fun i=>∃ k:Nat,k<=s.size/\i=.int .i64 k/\(s.data.toList.take k).all lowB=true) (fun i=>s.size-(intOf i).toNat)
 case atStart=>exact ⟨0,Nat.zero_le _,rfl,rfl⟩
 case round =>
  exact dr80
theorem acW_ (s:ByteArray) (w:World) (hs:s.size<=maxLen):Calls Tryz.prog 124 #[.func (.func 125) #[] #[],.string s] w fun e w'=>e=.returned (.int .i64 (aX_ c6_ s.data.toList:Nat))/\w=w':=by
 unfold maxLen at hs
 go_enter Tryz.func124,Tryz.ntmps124
 go_wp2
 go_loop [5] (fun i=>∃ k:Nat,k<=s.size/\i=.int .i64 k/\(s.data.toList.take k).all c6_=true) (fun i=>s.size-(intOf i).toNat)
 case atStart=>exact ⟨0,Nat.zero_le _,rfl,rfl⟩
 case round =>
  exact dr80
theorem ajI_ (s:ByteArray) (w:World) (hs:s.size<=maxLen):Calls Tryz.prog 124 #[.func (.func 179) #[] #[],.string s] w fun e w'=>e=.returned (.int .i64 (aX_ prB s.data.toList:Nat))/\w=w':=by
 unfold maxLen at hs
 go_enter Tryz.func124,Tryz.ntmps124
 go_wp2
 go_loop [5] (fun i=>∃ k:Nat,k<=s.size/\i=.int .i64 k/\(s.data.toList.take k).all prB=true) (fun i=>s.size-(intOf i).toNat)
 case atStart=>exact ⟨0,Nat.zero_le _,rfl,rfl⟩
 case round =>
  exact dr80
theorem zL_ (s:ByteArray) (w:World) (hs:s.size<=maxLen):Calls Tryz.prog 124 #[.func (.func 178) #[] #[],.string s] w fun e w'=>e=.returned (.int .i64 (aX_ nlB s.data.toList:Nat))/\w=w':=by
 unfold maxLen at hs
 go_enter Tryz.func124,Tryz.ntmps124
 go_wp2
 go_loop [5] (fun i=>∃ k:Nat,k<=s.size/\i=.int .i64 k/\(s.data.toList.take k).all nlB=true) (fun i=>s.size-(intOf i).toNat)
 case atStart=>exact ⟨0,Nat.zero_le _,rfl,rfl⟩
 case round =>
  exact dr80
theorem dr76 (h:P:=by
 rw [hd]
 go_enter Tryz.func126,Tryz.ntmps126
 go_wp2_with (first
  | (go_at_call 124;(fail_if_success have hz:=T1);refine (H1.out _).mono ?_;rintro e w' ⟨rfl,rfl⟩;have T1:True:=trivial)
  | (go_at_call 124;refine (H2.out _).mono ?_;rintro e w' ⟨rfl,rfl⟩))
 go_ret2
 exact ⟨by first|rfl|(simp;done)|(simp;omega),rfl⟩):P:=h
theorem ajP_ (s:ByteArray) (w:World) (hs:s.size<=maxLen):Calls Tryz.prog 126 #[.string s] w fun e w'=>e=.returned (.tuple #[.int .i64 (aX_ nlB s.data.toList:Nat),.bool (decide (aX_ nlB s.data.toList<=aX_ prB s.data.toList))])/\w=w':=by
 have H1:=hd_ (fun w'=>zL_ s w' hs)
 have H2:=hd_ (fun w'=>ajI_ s w' hs)
 generalize aX_ nlB s.data.toList=x at *
 generalize aX_ prB s.data.toList=y at *
 clear hs
 by_cases h:x<=y
 ·have hd:decide (x<=y)=true:=by simpa using h
  exact dr76
 ·have hd:decide (x<=y)=false:=by simpa using h
  exact dr76
theorem akB_:∀ n:Fin 256,decide (0<=Lib.indexByte [40,41,91,93,44,43,42,61,59] (UInt8.ofNat n.val))=bZ_.contains (UInt8.ofNat n.val):=by decide +kernel
theorem apI_ (c:UInt8):decide (0<=Lib.indexByte [40,41,91,93,44,43,42,61,59] c)=bZ_.contains c:=by
 have h:=akB_ ⟨c.toNat,c.toNat_lt⟩
 simpa using h
theorem u2_ {s:ByteArray} (h0:0<s.size):∃ r,s.data.toList=s[0]::r:=by
 have h:0<s.data.toList.length:=by simpa using h0
 cases hl:s.data.toList with
 | nil=>rw [hl] at h;simp at h
 | cons c r =>
  refine ⟨r, ?_⟩
  have:s[0]=s.data.toList[0]:=rfl
  rw [this]
  simp [hl]
theorem fE_ (c d:UInt8):((c.toNat:Int)==(d.toNat:Int))=(c==d):=by
 rw [Bool.eq_iff_iff]
 simp only [beq_iff_eq]
 constructor
 ·intro h;exact UInt8.toNat_inj.1 om_
 ·rintro rfl;rfl
theorem dr72 (h:P:=by
 go_enter Tryz.func75,Tryz.ntmps75
 go_wp2_with (first
  | (go_at_call 123;refine (HB.out _).mono ?_;rintro e w' ⟨rfl,rfl⟩)
  | (go_at_call 125;refine (HD.out _).mono ?_;rintro e w' ⟨rfl,rfl⟩)
  | (go_at_call 124;refine (HL.out _).mono ?_;rintro e w' ⟨rfl,rfl⟩))
 go_ret2
 first
 |
  exact ⟨rfl,rfl⟩
  done
 |
  exact ⟨by first|rfl|(simp;done)|(simp;omega),rfl⟩):P:=h
theorem dr74 (h:P:=by
 rw [hd];clear hd
 go_enter Tryz.func75,Tryz.ntmps75
 go_wp2_with (first
  | (go_at_call 123;refine (HB.out _).mono ?_;rintro e w' ⟨rfl,rfl⟩)
  | (go_at_call 125;refine (HD.out _).mono ?_;rintro e w' ⟨rfl,rfl⟩)
  | (go_at_call 121;refine (HI.out _).mono ?_;rintro e w' ⟨rfl,rfl⟩))
 go_ret2
 exact ⟨by first|rfl|(simp;done)|(simp;omega),rfl⟩):P:=h
theorem dr78 (h:P:=by
 rw [hd];clear hd
 go_enter Tryz.func75,Tryz.ntmps75
 go_wp2_with (first
  | (go_at_call 123;refine (HB.out _).mono ?_;rintro e w' ⟨rfl,rfl⟩)
  | (go_at_call 124;refine (HL.out _).mono ?_;rintro e w' ⟨rfl,rfl⟩))
 go_ret2
 exact ⟨by first|rfl|(simp;done)|(simp;omega),rfl⟩):P:=h
theorem af1_ (s:ByteArray) (w:World) (hs:s.size<=maxLen) (h0:0<s.size) :
  Calls Tryz.prog 75 #[.string s] w fun e w'=>e=.returned (.tuple #[.int .i64 ((aZ_ s.data.toList).1:Nat),.bool (aZ_ s.data.toList).2])/\w=w':=by
 obtain ⟨r,hr⟩:=u2_ h0
 have hf:=c9_ s[0] r
 rw [← hr] at hf
 have HF:=hd_ hf;clear hf hr
 have hs2:=hs
 unfold maxLen at hs2
 have h35:=fE_ s[0] 35
 have h48:=fE_ s[0] 48
 cases hlo:lowB s[0] with
 | true =>
  have HB:=hd_ (lC_ hlo)
  have HL:=hd_ (fun w'=>zK_ s w' hs)
  rw [HF.out,if_pos hlo]
  clear h35 h48 hlo HF
  generalize aX_ lowB s.data.toList=n at *
  by_cases h8:n<=8
  ·have hd:decide (n<=8)=true:=by simpa using h8
   exact dr78
  ·have hd:decide (n<=8)=false:=by simpa using h8
   exact dr78
 | false =>
  have HB:=hd_ (lC_ hlo)
  cases hdi:c6_ s[0] with
  | true =>
   have HD:=hd_ (mT_ hdi)
   have HL:=hd_ (fun w'=>acW_ s w' hs)
   rw [HF.out,if_neg (by simp [hlo]),if_pos hdi]
   clear h35 hlo HF hdi
   generalize aX_ c6_ s.data.toList=n at *
   have hcs:(6<n)∨(n<=6/\n=1)∨(n<=6/\n≠1):=by omega
   rcases hcs with h6|⟨h6,rfl⟩|⟨h6,hn1⟩
   ·have hd:(decide (n<=6)&&(decide (n=1)||!(s[0]==48)))=false:=by
     have:decide (n<=6)=false:=by simp;omega
     rw [this];rfl
    rw [hd];clear hd h48
    exact dr72
   ·have hd:(decide (1<=6)&&(decide (1=1)||!(s[0]==48)))=true:=rfl
    rw [hd];clear hd h48
    exact dr72
   ·have hb1:((n:Int)==1)=false:=by simp;omega
    have hd:(decide (n<=6)&&(decide (n=1)||!(s[0]==48)))=!(s[0]==48):=by
     have h1:decide (n<=6)=true:=by simpa using h6
     have h2:decide (n=1)=false:=by simpa using hn1
     rw [h1,h2];simp
    rw [hd];clear hd
    rw [← h48]
    clear h48 hn1
    cases h4:((s[0].toNat:Int)==((48:UInt8).toNat:Int)) with
    | true =>
     have h5:((s[0].toNat:Int)==48)=true:=h4
     have h6:((s[0].toNat:Int) != 48)=false:=by simp [bne,h5]
     exact dr72
    | false =>
     have h5:((s[0].toNat:Int)==48)=false:=h4
     have h6:((s[0].toNat:Int) != 48)=true:=by simp [bne,h5]
     exact dr72
  | false =>
   have HD:=hd_ (mT_ hdi)
   cases h4:(s[0]==35) with
   | true =>
    have h5:((s[0].toNat:Int)==35)=true:=by rw [← h4];exact h35
    have HL:=hd_ (fun w'=>ajP_ s w' hs)
    rw [HF.out,if_neg (by simp [hlo]),if_neg (by simp [hdi]),if_pos h4]
    generalize decide (aX_ nlB s.data.toList<=aX_ prB s.data.toList)=b at *
    generalize aX_ nlB s.data.toList=n at *
    clear h35 h48 hlo HF hdi h4
    go_enter Tryz.func75,Tryz.ntmps75
    go_wp2_with (first
     | (go_at_call 123;refine (HB.out _).mono ?_;rintro e w' ⟨rfl,rfl⟩)
     | (go_at_call 125;refine (HD.out _).mono ?_;rintro e w' ⟨rfl,rfl⟩)
     | (go_at_call 126;refine (HL.out _).mono ?_;rintro e w' ⟨rfl,rfl⟩))
    go_ret2
    exact ⟨rfl,rfl⟩
   | false =>
    have h5:((s[0].toNat:Int)==35)=false:=by rw [← h4];exact h35
    have HI:=hd_ (fun w'=>Tryz.strings_IndexByte ⟨#[40,41,91,93,44,43,42,61,59]⟩ (s[0].toNat:Int) w')
    have hsi:=apI_ s[0]
    have hcc:((s[0].toNat:Int)).toNat.toUInt8=s[0]:=by simp
    rw [hcc] at HI
    rw [HF.out,if_neg (by simp [hlo]),if_neg (by simp [hdi]),if_neg (by simp [h4]),← hsi]
    have hx:Lib.indexByte (⟨#[40,41,91,93,44,43,42,61,59]⟩:ByteArray).data.toList s[0]=Lib.indexByte [40,41,91,93,44,43,42,61,59] s[0]:=rfl
    rw [hx] at HI
    generalize Lib.indexByte [40,41,91,93,44,43,42,61,59] s[0]=x at *
    clear h35 h48 hlo HF hdi h4 hsi hcc hx
    by_cases hx0:0<=x
    ·have hd:decide (0<=x)=true:=by simpa using hx0
     exact dr74
    ·have hd:decide (0<=x)=false:=by simpa using hx0
     exact dr74
theorem asT_ (l:List ByteArray) (A:Option Addr) (n c:Nat) (hn:l.length=n) (w:World) (hl:Txs w w.heap.size A l) (hne:∀ t ∈ l,0<t.size) :
  Calls Tryz.prog 77 #[.slice A n c] w fun e w'=>e=.returned (.int .i64 (d6_ l:Nat))/\w=w':=by
 subst hn
 have hm:=hl.2.1
 unfold maxLen at hm
 have HN:=hd_ hl;have HE:=hd_ hne;clear hl hne
 go_enter Tryz.func77,Tryz.ntmps77
 go_wp2
 go_loop [3,5,8] (fun m _ i=>∃ k q:Nat,k<=l.length/\i=.int .i64 k/\m=.int .i64 q/\d6_ (l.take k)=q/\q<=k) (fun _ _ i=>l.length-(intOf i).toNat)
 case atStart=>exact ⟨0,0,Nat.zero_le _,rfl,rfl,rfl,by omega⟩
 case round =>
  obtain ⟨k,q,hk,rfl,rfl,hq,hqk⟩:=hrel
  have HQ:=hd_ hq;clear hq
  by_cases hlt:k<l.length
  ·obtain ⟨b,off,t,rfl,hb,ht,hts,hc⟩:=HN.out.one (Below.refl _ _) hlt
   have h0:0<t.size:=by have:=HE.out _ (List.getElem_mem hlt);rw [ht] at this;exact this
   obtain ⟨r,hr⟩:=u2_ h0
   have hst:=acY_ hlt
   rw [ht,hr,HQ.out] at hst
   simp only [List.head?_cons,Option.some.injEq] at hst
   have h35:=fE_ t[0] 35
   clear hr ht
   cases h4:(t[0]==35) with
   | true =>
    have h5:((t[0].toNat:Int)==35)=true:=by rw [← h4];exact h35
    have h6:((t[0].toNat:Int) != 35)=false:=by simp [bne,h5]
    rw [if_pos (by simpa using h4)] at hst
    have HST:=hd_ hst;clear hst h35 h4
    go_wp2
    go_round
    case rel=>exact ⟨k+1,q,by omega,by go_num,rfl,HST.out,by omega⟩
    case measure=>exact me_
   | false =>
    have h5:((t[0].toNat:Int)==35)=false:=by rw [← h4];exact h35
    have h6:((t[0].toNat:Int) != 35)=true:=by simp [bne,h5]
    rw [if_neg (by simpa using h4)] at hst
    have HST:=hd_ hst;clear hst h35 h4
    go_wp2
    go_round
    case rel=>exact ⟨k+1,q+1,by omega,by go_num,by go_num,HST.out,by omega⟩
    case measure=>exact me_
  ·have hz:d6_ l=q:=by rw [← HQ.out,List.take_of_length_le om_]
   have HZ:=hd_ hz;clear hz
   go_wp2
   exact iC_
def bB_ (ws:List (Nat × List UInt8)):List ByteArray:=ws.map fun p=>⟨p.2.toArray⟩
def dK_ (ws:List (Nat × List UInt8)):List Value:=ws.map fun p=>.int .i64 (p.1:Nat)
def cX_ (s:ByteArray):Int × Nat :=
 if 60000<s.size then (3,0) else
 match (dX_ 0 s.data.toList).2 with
 | some i=>(5,i)
 | none=>if 300<d6_ (bB_ (dX_ 0 s.data.toList).1) then (3,0) else (0,0)
def b1_ (s:ByteArray):List (Nat × List UInt8):=(dX_ 0 s.data.toList).1
theorem aaE_:∀ (n i:Nat) (s:List UInt8),s.length<=n->∀ p ∈ (dX_ i s).1,0<p.2.length:=fun n i s h p hp=>(lD_ n i s h p hp).pos
theorem iT_:(Tryz.prog.info? 3).map (fun i=>(i.zero,i.size,i.bytes))=some (some (.int .i64 0),1,8):=by kernel_rfl
theorem kT_:(Tryz.prog.info? 9).map (fun i=>(i.zero,i.size,i.bytes))=some (some (.string .empty),1,16):=by kernel_rfl
theorem b7x_ {w:World} {base:Nat} {e:TypeId} {size n:Nat} {v:Value} {xs:List Value} (h:w.ownsRow base e size v n xs):∃ A c,v=.slice A n c:=by
 rcases h.2 with ⟨rfl,rfl⟩|⟨g,cap,cur,rfl,_⟩
 ·exact ⟨none,0,rfl⟩
 ·exact ⟨_,cap,rfl⟩
theorem hK_ {w:World} {e f:TypeId} {u v:Value} {m n:Nat} {xs ys:List Value} {B C:Nat} {sz sz':Nat} (h1:w.ownsRow B e sz u m xs) (h2:w.ownsRow C f sz' v n ys) (hef:e≠f):u.ownBlock=none∨u.ownBlock≠v.ownBlock:=by
 rcases h1.2 with ⟨rfl,_⟩|⟨g,cap,cur,rfl,_,hg,_⟩
 ·exact .inl rfl
 ·refine .inr fun he=>?_
  rcases h2.2 with ⟨rfl,_⟩|⟨g',cap',cur',rfl,_,hg',_⟩
  ·simp [Value.ownBlock] at he
  ·simp only [Value.ownBlock,Option.some.injEq] at he
   subst he
   rw [hg] at hg'
   simp only [Option.some.injEq,Obj.cells.injEq] at hg'
   exact hef hg'.2.1
def ae5_ (s:ByteArray) (w:World) (e:Ending) (w':World):Prop:=e=.returned (.tuple #[.slice none 0 0,.slice none 0 0,.int .i64 ((cX_ s).2:Nat),eQ_ (cX_ s).1])/\Below w.heap.size w w'
def wF_ (s:ByteArray) (w:World) (e:Ending) (w':World):Prop :=
 ∃ A c A2 c2,e=.returned (.tuple #[.slice A (b1_ s).length c,.slice A2 (b1_ s).length c2,.int .i64 0,.nilIface]) /\
  Txs w' w'.heap.size A (bB_ (b1_ s))/\w'.ownsRow w.heap.size 3 1 (.slice A2 (b1_ s).length c2) (b1_ s).length (dK_ (b1_ s))/\Below w.heap.size w w'/\w'.ownsRow w.heap.size 9 1 (.slice A (b1_ s).length c) (b1_ s).length ((bB_ (b1_ s)).map .string)
def apU_ (s:ByteArray) (w:World) (e:Ending) (w':World):Prop:=((cX_ s).1≠0/\ae5_ s w e w')∨((cX_ s).1=0/\wF_ s w e w')
theorem xI_ {s:ByteArray} (h:60000<s.size):cX_ s=(3,0):=by rw [cX_,if_pos h]
theorem aaD_ {s:ByteArray} {i:Nat} (h:¬ 60000<s.size) (hb:(dX_ 0 s.data.toList).2=some i):cX_ s=(5,i):=by rw [cX_,if_neg h,hb]
theorem xJ_ {s:ByteArray} (h:¬ 60000<s.size) (hb:(dX_ 0 s.data.toList).2=none):cX_ s=if 300<d6_ (bB_ (b1_ s)) then (3,0) else (0,0):=by rw [cX_,if_neg h,hb];rfl
def fU_ (s:ByteArray) (i:Nat) (done:List (Nat × List UInt8)):Prop :=
 dX_ 0 s.data.toList=(done++(dX_ i (s.data.toList.drop i)).1,(dX_ i (s.data.toList.drop i)).2)/\done.length<=i/\∀ p ∈ done,p.2.length<=s.size
theorem fU_.start (s:ByteArray):fU_ s 0 []:=⟨by simp,by simp,by simp⟩
theorem fU_.done_ {s:ByteArray} {i:Nat} {done:List (Nat × List UInt8)} (h:fU_ s i done) (hi:s.size<=i):b1_ s=done/\(dX_ 0 s.data.toList).2=none:=by
 have h1:=h.1
 rw [List.drop_eq_nil_of_le so_,iV_] at h1
 unfold b1_
 rw [h1];simp
theorem h3_ {s:ByteArray} {i:Nat} (hi:i<s.size):s.data.toList.drop i=s[i]::s.data.toList.drop (i+1):=by
 rw [List.drop_eq_getElem_cons (by simpa using hi)];rfl
theorem fU_.skip {s:ByteArray} {i:Nat} {done:List (Nat × List UInt8)} (h:fU_ s i done) (hi:i<s.size) (hc:(s[i]==32||s[i]==10)=true):fU_ s (i+1) done:=by
 have h1:=h.1
 rw [h3_ hi,jL_ hc] at h1
 exact ⟨h1,by have:=h.2.1;omega,h.2.2⟩
theorem fU_.fault {s:ByteArray} {i:Nat} {done:List (Nat × List UInt8)} (h:fU_ s i done) (hi:i<s.size) (hc:(s[i]==32||s[i]==10)=false) (hb:(aZ_ (s.data.toList.drop i)).2=false):(dX_ 0 s.data.toList).2=some i:=by
 have h1:=h.1
 rw [h3_ hi] at hb h1
 rw [kN_ hc hb] at h1
 rw [h1]
theorem kV_ (l:List UInt8):(bJ_ l).length<=l.length:=by
 obtain ⟨k,hk⟩:=lS_ l
 have:=congrArg List.length hk
 simp at this;omega
theorem fU_.word {s:ByteArray} {i n:Nat} {done:List (Nat × List UInt8)} (h:fU_ s i done) (hi:i<s.size) (hc:(s[i]==32||s[i]==10)=false) (hb:aZ_ (s.data.toList.drop i)=(n,true)) :
  0<n/\i+n<=s.size/\fU_ s (i+n) (done++[(i,bJ_ ((s.data.toList.drop i).take n))]):=by
 have h1:=h.1
 have hb2:=hb
 rw [h3_ hi] at hb2
 have hp:=hF_ (c:=s[i]) (r:=s.data.toList.drop (i+1)) (by rw [hb2])
 rw [hb2] at hp
 rw [h3_ hi,g8_ hc (by rw [hb2]),hb2,← h3_ hi] at h1
 simp only [List.length_cons,List.length_drop] at hp
 have hsz:s.data.toList.length=s.size:=by simp
 refine ⟨hp.1,by omega, ?_,by rw [List.length_append];have:=h.2.1;simp;omega, ?_⟩
 ·rw [h1,List.drop_drop]
  simp
 ·intro p hpm
  rcases List.mem_append.1 hpm with h2|h2
  ·exact h.2.2 p h2
  ·simp at h2
   subst h2
   have:=kV_ ((s.data.toList.drop i).take n)
   rw [List.length_take,List.length_drop] at this
   show (bJ_ _).length<=_
   omega
theorem r8_ (l:List UInt8):Lib.trimRightB l 32=bJ_ l:=rfl
theorem yU_ {w:World} {B:Nat} {A:Option Addr} {n c:Nat} {ws:List (Nat × List UInt8)} (h:w.ownsRow B 9 1 (.slice A n c) n ((bB_ ws).map .string)) (hn:ws.length=n) (hs:ws.length<=60000) (hz:∀ p ∈ ws,p.2.length<=60000):Txs w w.heap.size A (bB_ ws):=by
 refine ⟨?_,by simp [bB_,maxLen];omega, ?_⟩
 ·have hl:(bB_ ws).length=n:=by simp [bB_,hn]
  rw [hl]
  exact Sl.of_own h
 ·intro t ht
  obtain ⟨p,hp,rfl⟩:=List.mem_map.1 ht
  have:=hz p hp
  show p.2.toArray.size<=maxLen
  simp [maxLen];omega
theorem dr79 (h:P:=by
 go_roundw
 first
 |
  case rel=>exact ⟨k+1,done,by omega,by go_num,HN.out,HW.out,HP.out,hB⟩
  case measure=>exact me_
  done
 |
  case measure=>exact me_
  case rel =>
   have hl:(done++[(k,t)]).length=done.length+1:=by simp
   refine ⟨k+n,done++[(k,t)],by omega,by go_num,HNX.out, ?_, ?_,hB4⟩
   ·rw [hl,HWB.out,List.map_append];exact HO4.out
   ·rw [hl,HPV.out];exact HP4.out):P:=h
theorem aoH_ (s:ByteArray) (w:World) (hs:s.size<=maxLen):Calls Tryz.prog 42 #[.string s] w (apU_ s w):=by
 unfold maxLen at hs
 by_cases h6:60000<s.size
 ·have HE:=hd_ (xI_ h6)
  go_enter Tryz.func42,Tryz.ntmps42
  go_wp2
  refine bodyPost_ret (v:=.tuple #[.slice none 0 0,.slice none 0 0,.int .i64 0,.iface 24 (.int .i64 3)]) (by simp [results,Tryz.results42,go_sem]) rfl ?_
  exact .inl ⟨by rw [HE.out];decide,by rw [HE.out];rfl,Below.refl _ _⟩
 ·obtain ⟨i0,hi0,hz0,hz1,hz2⟩:=info_parts iT_
  obtain ⟨iS,hiS,hzS,hzS1,hzS2⟩:=info_parts kT_
  go_enter Tryz.func42,Tryz.ntmps42
  go_wp2
  go_loopw [2,3,6,7,8] (fun ws at' i _ _ wr=>∃ (k:Nat) (done:List (Nat × List UInt8)),k<=s.size/\i=.int .i64 k/\fU_ s k done/\wr.ownsRow w.heap.size 9 1 ws done.length ((bB_ done).map .string)/\wr.ownsRow w.heap.size 3 1 at' done.length (dK_ done)/\Below w.heap.size w wr) (fun _ _ i _ _ _=>s.size-(intOf i).toNat)
  case atStart=>exact ⟨0,[],by omega,rfl,fU_.start s,World.ownsRow_nil _ _ _ _,World.ownsRow_nil _ _ _ _,Below.refl _ _⟩
  case round =>
   obtain ⟨k,done,hk,rfl,hat,hws,hpl,hB⟩:=hrel
   have hdl:=hat.2.1
   have HAT:=hd_ hat;have HW:=hd_ hws;have HP:=hd_ hpl;clear hat hws hpl
   by_cases hlt:k<s.size
   ·have e32:=fE_ s[k] 32
    have e10:=fE_ s[k] 10
    cases h32:(s[k]==32) with
    | true =>
     have h5:((s[k].toNat:Int)==32)=true:=by rw [← h32];exact e32
     have HN:=hd_ (HAT.out.skip hlt (by rw [h32];rfl))
     clear e32 e10 h32
     go_wp2
     exact dr79
    | false =>
     have h5:((s[k].toNat:Int)==32)=false:=by rw [← h32];exact e32
     cases h10:(s[k]==10) with
     | true =>
      have h7:((s[k].toNat:Int)==10)=true:=by rw [← h10];exact e10
      have HN:=hd_ (HAT.out.skip hlt (by rw [h32,h10];rfl))
      clear e32 e10 h32 h10
      go_wp2
      exact dr79
     | false =>
      have h7:((s[k].toNat:Int)==10)=false:=by rw [← h10];exact e10
      have hnb:(s[k]==32||s[k]==10)=false:=by rw [h32,h10];rfl
      have hez:(s.extract k s.size).size=s.size-k:=by simp
      have HF:=hd_ (fun w'=>af1_ (s.extract k s.size) w' (by rw [hez];simp only [maxLen];omega) (by rw [hez];omega))
      rw [Lib.extract_to_end] at HF
      obtain ⟨n,b,hfw⟩:∃ n b,aZ_ (s.data.toList.drop k)=(n,b):=⟨_,_,rfl⟩
      rw [hfw] at HF
      cases b with
      | false =>
       have HX:=hd_ (aaD_ h6 (HAT.out.fault hlt hnb (by rw [hfw])))
       clear e32 e10 h32 h10 hnb hfw hez
       go_wp2_with (go_at_call 75;refine (HF.out _).mono ?_;rintro e w' ⟨rfl,rfl⟩)
       refine bodyPost_ret (v:=.tuple #[.slice none 0 0,.slice none 0 0,.int .i64 (k:Nat),.iface 24 (.int .i64 5)]) (by simp [results,Tryz.results42,go_sem]) rfl ?_
       exact .inl ⟨by rw [HX.out];show (5:Int)≠0;decide,by rw [HX.out];rfl,hB⟩
      | true =>
       obtain ⟨n0,hn1,hnext⟩:=HAT.out.word hlt hnb hfw
       have hex:(s.extract k (k+n)).data.toList=(s.data.toList.drop k).take n:=by rw [Lib.extract_data];congr 1;omega
       have HT:=hd_ (fun w'=>(Tryz.strings_TrimRight_one (s.extract k (k+n)) 32 de_ w' so_).mono fun e u (h:e=_/\u=w')=>(⟨h.1,h.2.symm⟩:e=_/\w'=u))
       rw [hex,r8_] at HT
       have hwb:bB_ (done++[(k,bJ_ ((s.data.toList.drop k).take n))])=bB_ done++[⟨(bJ_ ((s.data.toList.drop k).take n)).toArray⟩]:=by simp [bB_]
       have hpv:dK_ (done++[(k,bJ_ ((s.data.toList.drop k).take n))])=dK_ done++[.int .i64 (k:Nat)]:=by simp [dK_]
       have HNX:=hd_ hnext;have HWB:=hd_ hwb;have HPV:=hd_ hpv
       generalize bJ_ ((s.data.toList.drop k).take n)=t at *
       clear e32 e10 h32 h10 hnb hfw hez hex hnext hwb hpv
       have hsz:=hB.size
       have NE:Hid ((3:TypeId)≠9):=hd_ de_
       go_wp2_with (first
        | (go_at_call 75;refine (HF.out _).mono ?_;rintro e w' ⟨rfl,rfl⟩)
        | (go_at_call 76;refine (HT.out _).mono ?_;rintro e w' ⟨rfl,rfl⟩)
        | (at_builtin;refine b4_ _ rfl (.tmp 40) (.tmp 48) _ rfl w.heap.size 9 iS (.string .empty) 1 16 Tryz.underlying72 hiS hzS hzS1 hzS2 rfl de_ _ done.length _ rfl (HW.out.alloc _) _ _ 1 1 [.string ⟨t.toArray⟩] rfl (Sl.lit (sz:=1) _ #[.string ⟨t.toArray⟩] 9 1 rfl) (by simp [Value.oneCell']) (by simp only [maxLen];omega) om_ so_ ?_;intro v3 w3 hown3 hgr3 _;have hB3:Below w.heap.size w w3:=bA_ (hB.alloc hsz _) (HW.out.alloc _) hgr3 (hB.alloc hsz _).size (Nat.le_refl _);have HP3:=hd_ ((HP.out.alloc _).kept hgr3 (hK_ HP.out HW.out NE.out));have HO3:=hd_ hown3;have hsz3:=hB3.size;clear hown3 hgr3)
        | (at_builtin;refine b4_ _ rfl (.tmp 50) (.tmp 52) _ rfl w.heap.size 3 i0 (.int .i64 0) 1 8 Tryz.underlying73 hi0 hz0 hz1 hz2 rfl de_ _ done.length _ rfl (HP3.out.alloc _) _ _ 1 1 [.int .i64 (k:Nat)] rfl (Sl.lit (sz:=1) _ #[.int .i64 (k:Nat)] 3 1 rfl) (by simp [Value.oneCell']) (by simp only [maxLen];omega) om_ so_ ?_;intro v4 w4 hown4 hgr4 _;have hB4:Below w.heap.size w w4:=bA_ (hB3.alloc hsz3 _) (HP3.out.alloc _) hgr4 (hB3.alloc hsz3 _).size (Nat.le_refl _);have HO4:=hd_ ((HO3.out.alloc _).kept hgr4 (hK_ HO3.out HP3.out NE.out.symm));have HP4:=hd_ hown4;clear hown4 hgr4))
       exact dr79
   ·obtain ⟨hd1,hd2⟩:=HAT.out.done_ om_
    have hle:=xJ_ h6 hd2
    have hpos:∀ t ∈ bB_ done,0<t.size:=by
     intro t ht
     obtain ⟨p,hp,rfl⟩:=List.mem_map.1 ht
     have:=aaE_ _ 0 s.data.toList (Nat.le_refl _) p (by rw [← hd1] at hp;exact hp)
     simpa [ByteArray.size] using this
    have hz:∀ p ∈ done,p.2.length<=60000:=fun p hp=>by have:=HAT.out.2.2 p hp;omega
    have hln:(bB_ done).length=done.length:=by simp [bB_]
    obtain ⟨A3,c3,rfl⟩:=b7x_ HW.out
    obtain ⟨A4,c4,rfl⟩:=b7x_ HP.out
    have htx:=yU_ HW.out rfl om_ hz
    have HM:=hd_ (asT_ (bB_ done) A3 done.length c3 hln wr htx hpos)
    have HTX:=hd_ htx;have HD1:=hd_ hd1
    rw [hd1] at hle
    clear htx hpos hd1 hd2 hz hln
    generalize d6_ (bB_ done)=q at *
    by_cases h300:300<q
    ·rw [if_pos h300] at hle
     have HE:=hd_ hle;clear hle
     go_wp2_with (go_at_call 77;refine HM.out.mono ?_;rintro e w' ⟨rfl,rfl⟩)
     refine bodyPost_ret (v:=.tuple #[.slice none 0 0,.slice none 0 0,.int .i64 0,.iface 24 (.int .i64 3)]) (by simp [results,Tryz.results42,go_sem]) rfl ?_
     exact .inl ⟨by rw [HE.out];show (3:Int)≠0;decide,by rw [HE.out];rfl,hB⟩
    ·rw [if_neg h300] at hle
     have HE:=hd_ hle;clear hle
     go_wp2_with (go_at_call 77;refine HM.out.mono ?_;rintro e w' ⟨rfl,rfl⟩)
     refine bodyPost_ret (v:=.tuple #[.slice A3 done.length c3,.slice A4 done.length c4,.int .i64 0,.nilIface]) (by simp [results,Tryz.results42,go_sem]) rfl ?_
     refine .inr ⟨by rw [HE.out],A3,c3,A4,c4,by rw [HD1.out], ?_, ?_,hB, ?_⟩
     ·rw [HD1.out];exact HTX.out
     ·rw [HD1.out];exact HP.out
     ·rw [HD1.out];exact HW.out
theorem adW_ (l:List UInt8):l.take (bJ_ l).length=bJ_ l:=by
 obtain ⟨k,hk⟩:=lS_ l
 have h:l.take (bJ_ l).length=(bJ_ l++List.replicate k 32).take (bJ_ l).length:=by rw [← hk]
 rw [h,List.take_left]
theorem uQ_:∀ (n i:Nat) (l:List UInt8),l.length<=n ->
  (∀ p ∈ (dX_ i l).1,i<=p.1/\p.1+p.2.length<=i+l.length/\(l.drop (p.1-i)).take p.2.length=p.2)/\(dX_ i l).1.Pairwise (fun a b=>a.1+a.2.length<=b.1):=by
 intro n
 induction n with
 | zero =>
  intro i l hn
  obtain rfl:l=[]:=List.eq_nil_of_length_eq_zero om_
  rw [iV_];exact ⟨by simp,.nil⟩
 | succ n ih =>
  intro i l hn
  cases l with
  | nil=>rw [iV_];exact ⟨by simp,.nil⟩
  | cons c r =>
   simp only [List.length_cons] at hn
   cases hc:(c==32||c==10) with
   | true =>
    rw [jL_ hc]
    obtain ⟨h1,h2⟩:=ih (i+1) r om_
    refine ⟨fun p hp=>?_,h2⟩
    obtain ⟨g1,g2,g3⟩:=h1 p hp
    refine ⟨by omega,by rw [List.length_cons];omega, ?_⟩
    rw [show p.1-i=(p.1-(i+1))+1 by omega,List.drop_succ_cons];exact g3
   | false =>
    cases hb:(aZ_ (c::r)).2 with
    | false=>rw [kN_ hc hb];exact ⟨by simp,.nil⟩
    | true =>
     have hp:=hF_ hb
     rw [g8_ hc hb]
     generalize (aZ_ (c::r)).1=m at *
     obtain ⟨h1,h2⟩:=ih (i+m) ((c::r).drop m) (by rw [List.length_drop,List.length_cons];omega)
     have ht:=kV_ ((c::r).take m)
     rw [List.length_take,Nat.min_eq_left hp.2] at ht
     refine ⟨fun p hpm=>?_, ?_⟩
     ·rcases List.mem_cons.1 hpm with rfl|hpm
      ·refine ⟨Nat.le_refl _,by simp only;omega, ?_⟩
       simp only [Nat.sub_self,List.drop_zero]
       have h3:=adW_ ((c::r).take m)
       rw [List.take_take,Nat.min_eq_left ht] at h3
       exact h3
      ·obtain ⟨g1,g2,g3⟩:=h1 p hpm
       rw [List.length_drop] at g2
       refine ⟨by omega,by omega, ?_⟩
       rw [List.drop_drop] at g3
       rw [show p.1-i=m+(p.1-(i+m)) by omega];exact g3
     ·rw [List.pairwise_cons]
      refine ⟨fun p hpm=>?_,h2⟩
      have:=(h1 p hpm).1
      simp only;omega
theorem oH_ {s:ByteArray} (hs:s.size<=60000):∀ p ∈ b1_ s,p.2.length<=60000/\p.1+p.2.length<=s.size/\0<p.2.length:=by
 intro p hp
 have h:=(uQ_ _ 0 s.data.toList (Nat.le_refl _)).1 p hp
 have h2:=aaE_ _ 0 s.data.toList (Nat.le_refl _) p hp
 have h3:s.data.toList.length=s.size:=by simp
 omega
theorem k1_ {s:ByteArray} (h:(cX_ s).1=0):s.size<=60000/\(dX_ 0 s.data.toList).2=none/\d6_ (bB_ (b1_ s))<=300:=by
 unfold cX_ at h
 split at h
 ·cases h
 ·split at h
  ·cases h
  ·rename_i hn
   split at h
   ·cases h
   ·exact ⟨by omega,hn,by unfold b1_;omega⟩
theorem jI_ {s:ByteArray} (h:(cX_ s).1=0):(b1_ s).length<=60000:=by
 have hp:=k1_ h
 have hs:=uQ_ _ 0 s.data.toList (Nat.le_refl _)
 have main:∀ (ws:List (Nat × List UInt8)) (a:Nat),(∀ p ∈ ws,a<=p.1/\p.1+p.2.length<=s.size/\0<p.2.length)->ws.Pairwise (fun a b=>a.1+a.2.length<=b.1)->ws.length+a<=s.size+0∨ws=[]:=by
  intro ws
  induction ws with
  | nil=>intro a _ _;exact .inr rfl
  | cons p r ih =>
   intro a h1 h2
   rw [List.pairwise_cons] at h2
   obtain ⟨g1,g2,g3⟩:=h1 p si_
   left
   rcases ih (p.1+p.2.length) (fun q hq=>⟨h2.1 q hq,(h1 q (by simp [hq])).2⟩) h2.2 with h3|h3
   ·simp only [List.length_cons];omega
   ·subst h3;simp only [List.length_cons,List.length_nil];omega
 rcases main (b1_ s) 0 (fun p hp2=>⟨Nat.zero_le _,(oH_ hp.1 p hp2).2⟩) hs.2 with h3|h3
 ·omega
 ·rw [h3];simp
end
end Go.Proofs.YtddfdmopaeghnadGreatDoor
