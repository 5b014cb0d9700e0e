/- Plain facts: the words of a text; a text behind a text; words that stand each in a line of its own. With what it rests on. Conditions: as each theorem states them. -/
import Derived.Below
import Derived.Test.YtddfdmopaeghnadGreatDoorRqTr
import Derived.Test.YtddfdmopaeghnadGreatDoorRqSh
import Derived.Laws.ResultCell
set_option maxRecDepth 100000
set_option maxHeartbeats 16000000
namespace Go.Proofs.YtddfdmopaeghnadGreatDoor
def lowB (c:UInt8):Bool:=decide (97<=c.toNat)&&decide (c.toNat<=122)
def digB (c:UInt8):Bool:=decide (48<=c.toNat)&&decide (c.toNat<=57)
def prB (c:UInt8):Bool:=decide (32<=c.toNat)&&decide (c.toNat<=126)
def nlB (c:UInt8):Bool:=!(c==10)
def runB (p:UInt8->Bool):List UInt8->Nat
 | []=>0
 | c::r=>if p c then runB p r+1 else 0
def signs:List UInt8:=[40,41,91,93,44,43,42,61,59]
def firstW:List UInt8->Nat × Bool
 | []=>(0,false)
 | c::r =>
  if lowB c then (runB lowB (c::r),decide (runB lowB (c::r)<=8))
  else if digB c then (runB digB (c::r),decide (runB digB (c::r)<=6)&&(decide (runB digB (c::r)=1)||!(c==48)))
  else if c==35 then (runB nlB (c::r),decide (runB nlB (c::r)<=runB prB (c::r)))
  else (1,signs.contains c)
theorem firstW_cons (c:UInt8) (r:List UInt8):firstW (c::r) =
  if lowB c then (runB lowB (c::r),decide (runB lowB (c::r)<=8))
  else if digB c then (runB digB (c::r),decide (runB digB (c::r)<=6)&&(decide (runB digB (c::r)=1)||!(c==48)))
  else if c==35 then (runB nlB (c::r),decide (runB nlB (c::r)<=runB prB (c::r)))
  else (1,signs.contains c):=rfl
def blank (c:UInt8):Bool:=c==32
def trimR (l:List UInt8):List UInt8:=(l.reverse.dropWhile blank).reverse
def lexG:Nat->Nat->List UInt8->List (Nat × List UInt8) × Option Nat
 | 0,_,_=>([],none)
 | _+1,_,[]=>([],none)
 | f+1,i,c::r =>
  if c==32||c==10 then lexG f (i+1) r
  else if (firstW (c::r)).2 then
   ((i,trimR ((c::r).take (firstW (c::r)).1))::(lexG f (i+(firstW (c::r)).1) ((c::r).drop (firstW (c::r)).1)).1,
    (lexG f (i+(firstW (c::r)).1) ((c::r).drop (firstW (c::r)).1)).2)
  else ([],some i)
theorem runB_le (p:UInt8->Bool) (l:List UInt8):runB p l<=l.length:=by
 induction l with
 | nil=>simp [runB]
 | cons c r ih=>unfold runB;split <;> simp <;> omega
theorem firstW_pos {c:UInt8} {r:List UInt8} (h:(firstW (c::r)).2=true):0<(firstW (c::r)).1/\(firstW (c::r)).1<=(c::r).length:=by
 rw [firstW_cons] at h ⊢
 split
 ·rename_i hc;exact ⟨by simp [runB,hc],runB_le _ _⟩
 ·split
  ·rename_i hc;exact ⟨by simp [runB,hc],runB_le _ _⟩
  ·split
   ·rename_i hc
    refine ⟨?_,runB_le _ _⟩
    have:c=35:=by simpa using hc
    subst this
    simp [runB,nlB]
   ·simp
theorem lexG_fuel:∀ (f g i:Nat) (l:List UInt8),l.length<=f->l.length<=g->lexG f i l=lexG g i l:=by
 intro f
 induction f with
 | zero =>
  intro g i l hf _
  obtain rfl:l=[]:=List.eq_nil_of_length_eq_zero (by omega)
  cases g <;> rfl
 | succ f ih =>
  intro g i l hf hg
  cases g with
  | zero =>
   obtain rfl:l=[]:=List.eq_nil_of_length_eq_zero (by omega)
   rfl
  | succ g =>
   cases l with
   | nil=>rfl
   | cons c r =>
    simp only [List.length_cons] at hf hg
    simp only [lexG]
    split
    ·exact ih g _ r (by omega) (by omega)
    ·split
     ·rename_i h
      have hp:=firstW_pos h
      rw [ih g (i+(firstW (c::r)).1) ((c::r).drop (firstW (c::r)).1) (by rw [List.length_drop,List.length_cons];omega) (by rw [List.length_drop,List.length_cons];omega)]
     ·rfl
def lexL (i:Nat) (l:List UInt8):List (Nat × List UInt8) × Option Nat:=lexG l.length i l
theorem lexL_nil (i:Nat):lexL i []=([],none):=rfl
theorem lexL_skip {i:Nat} {c:UInt8} {r:List UInt8} (h:(c==32||c==10)=true):lexL i (c::r)=lexL (i+1) r:=by
 unfold lexL;rw [List.length_cons,lexG,if_pos h]
theorem lexL_bad {i:Nat} {c:UInt8} {r:List UInt8} (h:(c==32||c==10)=false) (hb:(firstW (c::r)).2=false):lexL i (c::r)=([],some i):=by
 unfold lexL;rw [List.length_cons,lexG,if_neg (by simp [h]),if_neg (by simp [hb])]
theorem lexL_word {i:Nat} {c:UInt8} {r:List UInt8} (h:(c==32||c==10)=false) (hb:(firstW (c::r)).2=true) :
  lexL i (c::r)=((i,trimR ((c::r).take (firstW (c::r)).1))::(lexL (i+(firstW (c::r)).1) ((c::r).drop (firstW (c::r)).1)).1,(lexL (i+(firstW (c::r)).1) ((c::r).drop (firstW (c::r)).1)).2):=by
 have hp:=firstW_pos hb
 unfold lexL
 rw [List.length_cons,lexG,if_neg (by simp [h]),if_pos hb]
 rw [lexG_fuel r.length ((c::r).drop (firstW (c::r)).1).length _ _ (by rw [List.length_drop,List.length_cons];omega) (Nat.le_refl _)]
theorem trimR_of {l:List UInt8} (h:∀ c ∈ l,blank c=false):trimR l=l:=by
 unfold trimR
 have:l.reverse.dropWhile blank=l.reverse:=by
  cases hr:l.reverse with
  | nil=>rfl
  | cons c r =>
   have hc:blank c=false:=h c (by rw [← List.mem_reverse,hr];simp)
   rw [List.dropWhile_cons,hc];rfl
 rw [this,List.reverse_reverse]
theorem trimR_idem (l:List UInt8):trimR (trimR l)=trimR l:=by
 unfold trimR
 rw [List.reverse_reverse]
 congr 1
 generalize l.reverse=m
 induction m with
 | nil=>rfl
 | cons c r ih =>
  rw [List.dropWhile_cons]
  split
  ·exact ih
  ·rename_i hc;rw [List.dropWhile_cons,if_neg hc]
theorem trimR_pre (l:List UInt8):∃ k,l=trimR l++List.replicate k 32:=by
 unfold trimR
 have:∀ m:List UInt8,∃ k,m=List.replicate k 32++m.dropWhile blank:=by
  intro m
  induction m with
  | nil=>exact ⟨0,rfl⟩
  | cons c r ih =>
   rw [List.dropWhile_cons]
   split
   ·rename_i hc
    have:c=32:=by simpa [blank] using hc
    obtain ⟨k,hk⟩:=ih
    exact ⟨k+1,by rw [this,List.replicate_succ,List.cons_append,← hk]⟩
   ·exact ⟨0,by simp⟩
 obtain ⟨k,hk⟩:=this l.reverse
 refine ⟨k, ?_⟩
 have:=congrArg List.reverse hk
 rw [List.reverse_reverse,List.reverse_append,List.reverse_replicate] at this
 exact this
theorem runB_take {p:UInt8->Bool} (l:List UInt8):∀ c ∈ l.take (runB p l),p c=true:=by
 induction l with
 | nil=>simp [runB]
 | cons c r ih =>
  intro d hd
  unfold runB at hd
  split at hd
  ·rename_i hc
   rw [List.take_succ_cons] at hd
   rcases List.mem_cons.1 hd with rfl|hd
   ·exact hc
   ·exact ih d hd
  ·simp at hd
theorem runB_all {p:UInt8->Bool} {l:List UInt8} (h:∀ c ∈ l,p c=true):runB p l=l.length:=by
 induction l with
 | nil=>rfl
 | cons c r ih =>
  rw [runB,if_pos (h c (by simp)),ih (fun d hd=>h d (by simp [hd]))];rfl
theorem runB_mono {p:UInt8->Bool} (l:List UInt8) (n:Nat) (h:n<=runB p l):∀ c ∈ l.take n,p c=true:=by
 intro c hc
 refine runB_take l c ?_
 obtain ⟨i,hi,rfl⟩:=List.mem_iff_getElem.1 hc
 rw [List.length_take] at hi
 rw [List.getElem_take]
 refine List.mem_iff_getElem.2 ⟨i,by rw [List.length_take];omega,by rw [List.getElem_take]⟩
structure WordOk (w:List UInt8):Prop where
 pos:0<w.length
 lex:∀ i,lexL i w=([(i,w)],none)
theorem lexL_whole {i:Nat} {c:UInt8} {r:List UInt8} (h:(c==32||c==10)=false) (hf:firstW (c::r)=((c::r).length,true)) (ht:trimR (c::r)=c::r):lexL i (c::r)=([(i,c::r)],none):=by
 rw [lexL_word h (by rw [hf]),hf]
 simp only [List.take_length,List.drop_length,ht,lexL_nil]
theorem low_nb {c:UInt8} (h:lowB c=true):(c==32||c==10)=false/\blank c=false:=by
 have hc:97<=c.toNat:=by unfold lowB at h;simp at h;omega
 have h1:c≠32:=by rintro rfl;simp at hc
 have h2:c≠10:=by rintro rfl;simp at hc
 simp [blank,h1,h2]
theorem dig_nb {c:UInt8} (h:digB c=true):(c==32||c==10)=false/\blank c=false/\lowB c=false:=by
 have hc:48<=c.toNat/\c.toNat<=57:=by unfold digB at h;simp at h;omega
 have h1:c≠32:=by rintro rfl;simp at hc
 have h2:c≠10:=by rintro rfl;simp at hc
 refine ⟨by simp [h1,h2],by simp [blank,h1], ?_⟩
 unfold lowB;simp;omega
theorem word_ok {c:UInt8} {r:List UInt8} (hc:(c==32||c==10)=false) (hb:(firstW (c::r)).2=true):WordOk (trimR ((c::r).take (firstW (c::r)).1)):=by
 have hp:=firstW_pos hb
 rw [firstW_cons] at hb hp ⊢
 by_cases h1:lowB c=true
 ·rw [if_pos h1] at hb hp ⊢
  simp only at hb hp ⊢
  have ha:=runB_take (p:=lowB) (c::r)
  rw [trimR_of fun d hd=>(low_nb (ha d hd)).2]
  have hl:((c::r).take (runB lowB (c::r))).length=runB lowB (c::r):=by rw [List.length_take];omega
  have hhd:(c::r).take (runB lowB (c::r))=c::r.take (runB lowB (c::r)-1):=by
   conv=>lhs;rw [show runB lowB (c::r)=(runB lowB (c::r)-1)+1 by omega]
   rw [List.take_succ_cons]
  refine ⟨by omega,fun i=>?_⟩
  have hall:=runB_all ha
  generalize hq:r.take (runB lowB (c::r)-1)=q at *
  rw [hhd] at ha hl hall ⊢
  refine lexL_whole hc ?_ (trimR_of fun d hd=>(low_nb (ha d hd)).2)
  rw [firstW_cons]
  rw [if_pos h1,hall]
  rw [hl]
  simp only [hb]
 ·rw [if_neg h1] at hb hp ⊢
  by_cases h2:digB c=true
  ·rw [if_pos h2] at hb hp ⊢
   simp only at hb hp ⊢
   have ha:=runB_take (p:=digB) (c::r)
   rw [trimR_of fun d hd=>(dig_nb (ha d hd)).2.1]
   have hl:((c::r).take (runB digB (c::r))).length=runB digB (c::r):=by rw [List.length_take];omega
   have hhd:(c::r).take (runB digB (c::r))=c::r.take (runB digB (c::r)-1):=by
    conv=>lhs;rw [show runB digB (c::r)=(runB digB (c::r)-1)+1 by omega]
    rw [List.take_succ_cons]
   refine ⟨by omega,fun i=>?_⟩
   have hall:=runB_all ha
   generalize hq:r.take (runB digB (c::r)-1)=q at *
   rw [hhd] at ha hl hall ⊢
   refine lexL_whole hc ?_ (trimR_of fun d hd=>(dig_nb (ha d hd)).2.1)
   rw [firstW_cons]
   rw [if_neg h1,if_pos h2,hall]
   rw [hl]
   simp only [hb]
  ·rw [if_neg h2] at hb hp ⊢
   by_cases h3:(c==35)=true
   ·rw [if_pos h3] at hb hp ⊢
    simp only at hb hp ⊢
    have ec:c=35:=by simpa using h3
    subst ec
    have hle:runB nlB (35::r)<=runB prB (35::r):=by simpa using hb
    have ha:=runB_take (p:=nlB) (35::r)
    have hb2:=runB_mono (p:=prB) (35::r) _ hle
    obtain ⟨k,hk⟩:=trimR_pre ((35::r).take (runB nlB (35::r)))
    have hid:=trimR_idem ((35::r).take (runB nlB (35::r)))
    have hne:trimR ((35::r).take (runB nlB (35::r)))≠[]:=by
     intro he
     rw [he,List.nil_append] at hk
     have:(35:UInt8) ∈ List.replicate k (32:UInt8):=by
      rw [← hk,show runB nlB (35::r)=(runB nlB (35::r)-1)+1 by omega,List.take_succ_cons];simp
     have:=List.eq_of_mem_replicate this
     exact absurd this (by decide)
    generalize trimR ((35::r).take (runB nlB (35::r)))=w at *
    have h35:((35::r).take (runB nlB (35::r))).head?=some 35:=by
     rw [show runB nlB (35::r)=(runB nlB (35::r)-1)+1 by omega,List.take_succ_cons];rfl
    cases w with
    | nil=>exact absurd rfl hne
    | cons d q =>
     rw [hk] at ha hb2 h35
     simp at h35
     subst h35
     refine ⟨by simp,fun i=>lexL_whole hc ?_ hid⟩
     have e1:=runB_all (p:=nlB) (l:=35::q) fun c hc=>ha c (List.mem_append_left _ hc)
     have e2:=runB_all (p:=prB) (l:=35::q) fun c hc=>hb2 c (List.mem_append_left _ hc)
     rw [firstW_cons]
     rw [if_neg h1,if_neg h2,if_pos h3,e1,e2]
     simp
   ·rw [if_neg h3] at hb hp ⊢
    simp only at hb hp ⊢
    have ht:(c::r).take 1=[c]:=rfl
    have hnb:blank c=false:=by
     cases h:blank c with
     | false=>rfl
     | true=>unfold blank at h;simp [h] at hc
    rw [ht,trimR_of (by simpa using hnb)]
    refine ⟨by simp,fun i=>lexL_whole hc ?_ (trimR_of (by simpa using hnb))⟩
    rw [firstW_cons]
    rw [if_neg h1,if_neg h2,if_neg h3,hb];rfl
theorem lex_words:∀ (n i:Nat) (s:List UInt8),s.length<=n->∀ p ∈ (lexL i s).1,WordOk p.2:=by
 intro n
 induction n with
 | zero =>
  intro i s hn p hp
  obtain rfl:s=[]:=List.eq_nil_of_length_eq_zero (by omega)
  simp [lexL_nil] at hp
 | succ n ih =>
  intro i s hn p hp
  cases s with
  | nil=>simp [lexL_nil] at hp
  | cons c r =>
   simp only [List.length_cons] at hn
   cases hc:(c==32||c==10) with
   | true=>rw [lexL_skip hc] at hp;exact ih _ r (by omega) p hp
   | false =>
    cases hb:(firstW (c::r)).2 with
    | false=>rw [lexL_bad hc hb] at hp;simp at hp
    | true =>
     rw [lexL_word hc hb] at hp
     rcases List.mem_cons.1 hp with rfl|hp
     ·exact word_ok hc hb
     ·exact ih _ _ (by have:=firstW_pos hb;rw [List.length_drop,List.length_cons];omega) p hp
end Go.Proofs.YtddfdmopaeghnadGreatDoor
namespace Go.Proofs.YtddfdmopaeghnadGreatDoor
def manyW:List ByteArray->Nat
 | []=>0
 | t::r=>(if t.data.toList.head?=some 35 then 0 else 1)+manyW r
theorem manyW_take {l:List ByteArray} {k:Nat} (hk:k<l.length):manyW (l.take (k+1))=manyW (l.take k)+if l[k].data.toList.head?=some 35 then 0 else 1:=by
 induction l generalizing k with
 | nil=>simp at hk
 | cons t r ih =>
  cases k with
  | zero=>simp [manyW]
  | succ k =>
   have hk':k<r.length:=by simpa using hk
   simp only [List.take_succ_cons,manyW,ih hk',List.getElem_cons_succ];omega
end Go.Proofs.YtddfdmopaeghnadGreatDoor
namespace Go.Proofs.YtddfdmopaeghnadGreatDoor
open Go.RowKit
theorem runB_at {p:UInt8->Bool} {l:List UInt8} {k:Nat} (ha:(l.take k).all p=true) (hk:k<l.length) (hp:p l[k]=false):runB p l=k:=by
 induction l generalizing k with
 | nil=>simp at hk
 | cons c r ih =>
  cases k with
  | zero=>simp at hp;simp [runB,hp]
  | succ k =>
   simp only [List.take_succ_cons,List.all_cons,Bool.and_eq_true] at ha
   rw [runB,if_pos ha.1,ih ha.2 (by simpa using hk) (by simpa using hp)]
theorem runB_end {p:UInt8->Bool} {s:ByteArray} {k:Nat} (ha:(s.data.toList.take k).all p=true) (hk:s.size<=k) (hk2:k<=s.size):runB p s.data.toList=k:=by
 have h:=all_yes ha hk
 rw [runB_all (fun c hc=>List.all_eq_true.1 h c hc)]
 simp;omega
theorem runB_stop {p:UInt8->Bool} {s:ByteArray} {k:Nat} (ha:(s.data.toList.take k).all p=true) (hk:k<s.size) (hp:p s[k]=false):runB p s.data.toList=k :=
 runB_at ha (by simpa using hk) hp
theorem rq45 {P:Prop} (h:P:=by
 subst hb;clear h
 go_enter Tryz.func123,Tryz.ntmps123
 go_wp2
 go_ret
 exact ⟨by first|rfl|(simp;done)|(simp;omega),rfl⟩):P:=h
theorem letter_is {c:UInt8} {b:Bool} (h:lowB c=b) (w:World):Calls Tryz.prog 123 #[.int .u8 (c.toNat:Int)] w fun e w'=>e=.returned (.bool b)/\w=w':=by
 have hc:=c.toNat_lt
 generalize hn:c.toNat=n at *
 unfold lowB at h
 rw [hn] at h
 clear hn
 have hcs:n<97∨122<n∨(97<=n/\n<=122):=by omega
 rcases hcs with h1|h1|⟨h1,h2⟩
 ·have hb:b=false:=by rw [← h];simp;omega
  exact rq45
 ·have hb:b=false:=by rw [← h];simp;omega
  have h3:97<=n:=by omega
  exact rq45
 ·have hb:b=true:=by rw [← h];simp;omega
  exact rq45
theorem rq46 {P:Prop} (h:P:=by
 subst hb;clear h
 go_enter Tryz.func125,Tryz.ntmps125
 go_wp2
 go_ret
 exact ⟨by first|rfl|(simp;done)|(simp;omega),rfl⟩):P:=h
theorem digit_is {c:UInt8} {b:Bool} (h:digB c=b) (w:World):Calls Tryz.prog 125 #[.int .u8 (c.toNat:Int)] w fun e w'=>e=.returned (.bool b)/\w=w':=by
 have hc:=c.toNat_lt
 generalize hn:c.toNat=n at *
 unfold digB at h
 rw [hn] at h
 clear hn
 have hcs:n<48∨57<n∨(48<=n/\n<=57):=by omega
 rcases hcs with h1|h1|⟨h1,h2⟩
 ·have hb:b=false:=by rw [← h];simp;omega
  exact rq46
 ·have hb:b=false:=by rw [← h];simp;omega
  have h3:48<=n:=by omega
  exact rq46
 ·have hb:b=true:=by rw [← h];simp;omega
  exact rq46
theorem rq47 {P:Prop} (h:P:=by
 subst hb;clear h
 go_enter Tryz.func179,Tryz.ntmps179
 go_wp2
 go_ret
 exact ⟨by first|rfl|(simp;done)|(simp;omega),rfl⟩):P:=h
theorem vis_is {c:UInt8} {b:Bool} (h:prB c=b) (w:World):Calls Tryz.prog 179 #[.int .u8 (c.toNat:Int)] w fun e w'=>e=.returned (.bool b)/\w=w':=by
 have hc:=c.toNat_lt
 generalize hn:c.toNat=n at *
 unfold prB at h
 rw [hn] at h
 clear hn
 have hcs:n<32∨126<n∨(32<=n/\n<=126):=by omega
 rcases hcs with h1|h1|⟨h1,h2⟩
 ·have hb:b=false:=by rw [← h];simp;omega
  exact rq47
 ·have hb:b=false:=by rw [← h];simp;omega
  have h3:32<=n:=by omega
  exact rq47
 ·have hb:b=true:=by rw [← h];simp;omega
  exact rq47
theorem noline_is {c:UInt8} {b:Bool} (h:nlB c=b) (w:World):Calls Tryz.prog 178 #[.int .u8 (c.toNat:Int)] w fun e w'=>e=.returned (.bool b)/\w=w':=by
 have hn:nlB c=!((c.toNat:Int)==10):=by
  unfold nlB
  congr 1
  rw [Bool.eq_iff_iff]
  simp only [beq_iff_eq]
  constructor
  ·rintro rfl;rfl
  ·intro h
   have h10:c.toNat=10:=by omega
   exact UInt8.toNat_inj.1 (by rw [h10];rfl)
 rw [h] at hn
 generalize c.toNat=n at *
 cases b with
 | true =>
  have h1:((n:Int)==10)=false:=by simpa using hn
  have h2:((n:Int) != 10)=true:=by simpa using hn
  clear hn h
  go_enter Tryz.func178,Tryz.ntmps178
  go_wp2
  go_ret
  exact ⟨rfl,rfl⟩
 | false =>
  have h1:((n:Int)==10)=true:=by simpa using hn
  have h2:((n:Int) != 10)=false:=by simpa using hn
  clear hn h
  go_enter Tryz.func178,Tryz.ntmps178
  go_wp2
  go_ret
  exact ⟨rfl,rfl⟩
theorem long_letter (s:ByteArray) (w:World) (hs:s.size<=maxLen):Calls Tryz.prog 124 #[.func (.func 123) #[] #[],.string s] w fun e w'=>e=.returned (.int .i64 (runB lowB s.data.toList:Nat))/\w=w':=by
 unfold maxLen at hs
 go_enter Tryz.func124,Tryz.ntmps124
 go_wp2
 go_loop [5] (fun i=>∃ k:Nat,k<=s.size/\i=.int .i64 k/\(s.data.toList.take k).all lowB=true) (fun i=>s.size-(intOf i).toNat)
 case atStart=>exact ⟨0,Nat.zero_le _,rfl,rfl⟩
 case round =>
  obtain ⟨k,hk,rfl,ha⟩:=hrel
  have HA:=hd_ ha;clear ha
  by_cases hlt:k<s.size
  ·cases hb:lowB s[k] with
   | true =>
    have HC:=hd_ (letter_is hb)
    have HG:=hd_ (all_more HA.out hlt hb);clear hb
    go_wp2_with (go_at_call 123;refine (HC.out _).mono ?_;rintro e w' ⟨rfl,rfl⟩)
    go_round
    case rel=>exact ⟨k+1,by omega,by go_num,HG.out⟩
    case measure=>simp [intOf];omega
   | false =>
    have HC:=hd_ (letter_is hb)
    have HG:=hd_ (runB_stop HA.out hlt hb);clear hb
    go_wp2_with (go_at_call 123;refine (HC.out _).mono ?_;rintro e w' ⟨rfl,rfl⟩)
    go_ret
    exact ⟨by rw [HG.out];rfl,rfl⟩
  ·have HG:=hd_ (runB_end HA.out (by omega) hk)
   go_wp2
   go_ret
   exact ⟨by rw [HG.out];rfl,rfl⟩
theorem long_digit (s:ByteArray) (w:World) (hs:s.size<=maxLen):Calls Tryz.prog 124 #[.func (.func 125) #[] #[],.string s] w fun e w'=>e=.returned (.int .i64 (runB digB s.data.toList:Nat))/\w=w':=by
 unfold maxLen at hs
 go_enter Tryz.func124,Tryz.ntmps124
 go_wp2
 go_loop [5] (fun i=>∃ k:Nat,k<=s.size/\i=.int .i64 k/\(s.data.toList.take k).all digB=true) (fun i=>s.size-(intOf i).toNat)
 case atStart=>exact ⟨0,Nat.zero_le _,rfl,rfl⟩
 case round =>
  obtain ⟨k,hk,rfl,ha⟩:=hrel
  have HA:=hd_ ha;clear ha
  by_cases hlt:k<s.size
  ·cases hb:digB s[k] with
   | true =>
    have HC:=hd_ (digit_is hb)
    have HG:=hd_ (all_more HA.out hlt hb);clear hb
    go_wp2_with (go_at_call 125;refine (HC.out _).mono ?_;rintro e w' ⟨rfl,rfl⟩)
    go_round
    case rel=>exact ⟨k+1,by omega,by go_num,HG.out⟩
    case measure=>simp [intOf];omega
   | false =>
    have HC:=hd_ (digit_is hb)
    have HG:=hd_ (runB_stop HA.out hlt hb);clear hb
    go_wp2_with (go_at_call 125;refine (HC.out _).mono ?_;rintro e w' ⟨rfl,rfl⟩)
    go_ret
    exact ⟨by rw [HG.out];rfl,rfl⟩
  ·have HG:=hd_ (runB_end HA.out (by omega) hk)
   go_wp2
   go_ret
   exact ⟨by rw [HG.out];rfl,rfl⟩
theorem long_vis (s:ByteArray) (w:World) (hs:s.size<=maxLen):Calls Tryz.prog 124 #[.func (.func 179) #[] #[],.string s] w fun e w'=>e=.returned (.int .i64 (runB prB s.data.toList:Nat))/\w=w':=by
 unfold maxLen at hs
 go_enter Tryz.func124,Tryz.ntmps124
 go_wp2
 go_loop [5] (fun i=>∃ k:Nat,k<=s.size/\i=.int .i64 k/\(s.data.toList.take k).all prB=true) (fun i=>s.size-(intOf i).toNat)
 case atStart=>exact ⟨0,Nat.zero_le _,rfl,rfl⟩
 case round =>
  obtain ⟨k,hk,rfl,ha⟩:=hrel
  have HA:=hd_ ha;clear ha
  by_cases hlt:k<s.size
  ·cases hb:prB s[k] with
   | true =>
    have HC:=hd_ (vis_is hb)
    have HG:=hd_ (all_more HA.out hlt hb);clear hb
    go_wp2_with (go_at_call 179;refine (HC.out _).mono ?_;rintro e w' ⟨rfl,rfl⟩)
    go_round
    case rel=>exact ⟨k+1,by omega,by go_num,HG.out⟩
    case measure=>simp [intOf];omega
   | false =>
    have HC:=hd_ (vis_is hb)
    have HG:=hd_ (runB_stop HA.out hlt hb);clear hb
    go_wp2_with (go_at_call 179;refine (HC.out _).mono ?_;rintro e w' ⟨rfl,rfl⟩)
    go_ret
    exact ⟨by rw [HG.out];rfl,rfl⟩
  ·have HG:=hd_ (runB_end HA.out (by omega) hk)
   go_wp2
   go_ret
   exact ⟨by rw [HG.out];rfl,rfl⟩
theorem long_noline (s:ByteArray) (w:World) (hs:s.size<=maxLen):Calls Tryz.prog 124 #[.func (.func 178) #[] #[],.string s] w fun e w'=>e=.returned (.int .i64 (runB nlB s.data.toList:Nat))/\w=w':=by
 unfold maxLen at hs
 go_enter Tryz.func124,Tryz.ntmps124
 go_wp2
 go_loop [5] (fun i=>∃ k:Nat,k<=s.size/\i=.int .i64 k/\(s.data.toList.take k).all nlB=true) (fun i=>s.size-(intOf i).toNat)
 case atStart=>exact ⟨0,Nat.zero_le _,rfl,rfl⟩
 case round =>
  obtain ⟨k,hk,rfl,ha⟩:=hrel
  have HA:=hd_ ha;clear ha
  by_cases hlt:k<s.size
  ·cases hb:nlB s[k] with
   | true =>
    have HC:=hd_ (noline_is hb)
    have HG:=hd_ (all_more HA.out hlt hb);clear hb
    go_wp2_with (go_at_call 178;refine (HC.out _).mono ?_;rintro e w' ⟨rfl,rfl⟩)
    go_round
    case rel=>exact ⟨k+1,by omega,by go_num,HG.out⟩
    case measure=>simp [intOf];omega
   | false =>
    have HC:=hd_ (noline_is hb)
    have HG:=hd_ (runB_stop HA.out hlt hb);clear hb
    go_wp2_with (go_at_call 178;refine (HC.out _).mono ?_;rintro e w' ⟨rfl,rfl⟩)
    go_ret
    exact ⟨by rw [HG.out];rfl,rfl⟩
  ·have HG:=hd_ (runB_end HA.out (by omega) hk)
   go_wp2
   go_ret
   exact ⟨by rw [HG.out];rfl,rfl⟩
theorem rq43 {P:Prop} (h:P:=by
 rw [hd]
 go_enter Tryz.func126,Tryz.ntmps126
 go_wp2_with (first
  | (go_at_call 124;(fail_if_success have hz:=T1);refine (H1.out _).mono ?_;rintro e w' ⟨rfl,rfl⟩;have T1:True:=trivial)
  | (go_at_call 124;refine (H2.out _).mono ?_;rintro e w' ⟨rfl,rfl⟩))
 go_ret2
 exact ⟨by first|rfl|(simp;done)|(simp;omega),rfl⟩):P:=h
theorem note_any (s:ByteArray) (w:World) (hs:s.size<=maxLen):Calls Tryz.prog 126 #[.string s] w fun e w'=>e=.returned (.tuple #[.int .i64 (runB nlB s.data.toList:Nat),.bool (decide (runB nlB s.data.toList<=runB prB s.data.toList))])/\w=w':=by
 have H1:=hd_ (fun w'=>long_noline s w' hs)
 have H2:=hd_ (fun w'=>long_vis s w' hs)
 generalize runB nlB s.data.toList=x at *
 generalize runB prB s.data.toList=y at *
 clear hs
 by_cases h:x<=y
 ·have hd:decide (x<=y)=true:=by simpa using h
  exact rq43
 ·have hd:decide (x<=y)=false:=by simpa using h
  exact rq43
theorem sign_all:∀ n:Fin 256,decide (0<=Lib.indexByte [40,41,91,93,44,43,42,61,59] (UInt8.ofNat n.val))=signs.contains (UInt8.ofNat n.val):=by decide +kernel
theorem sign_is (c:UInt8):decide (0<=Lib.indexByte [40,41,91,93,44,43,42,61,59] c)=signs.contains c:=by
 have h:=sign_all ⟨c.toNat,c.toNat_lt⟩
 simpa using h
theorem byte_cons {s:ByteArray} (h0:0<s.size):∃ r,s.data.toList=s[0]::r:=by
 have h:0<s.data.toList.length:=by simpa using h0
 cases hl:s.data.toList with
 | nil=>rw [hl] at h;simp at h
 | cons c r =>
  refine ⟨r, ?_⟩
  have:s[0]=s.data.toList[0]:=rfl
  rw [this]
  simp [hl]
theorem byte_eq (c d:UInt8):((c.toNat:Int)==(d.toNat:Int))=(c==d):=by
 rw [Bool.eq_iff_iff]
 simp only [beq_iff_eq]
 constructor
 ·intro h;exact UInt8.toNat_inj.1 (by omega)
 ·rintro rfl;rfl
theorem rq40 {P:Prop} (h:P:=by
 rw [hd];clear hd
 go_enter Tryz.func75,Tryz.ntmps75
 go_wp2_with (first
  | (go_at_call 123;refine (HB.out _).mono ?_;rintro e w' ⟨rfl,rfl⟩)
  | (go_at_call 125;refine (HD.out _).mono ?_;rintro e w' ⟨rfl,rfl⟩)
  | (go_at_call 121;refine (HI.out _).mono ?_;rintro e w' ⟨rfl,rfl⟩))
 go_ret2
 exact ⟨by first|rfl|(simp;done)|(simp;omega),rfl⟩):P:=h
theorem rq41 {P:Prop} (h:P:=by
 rw [hd];clear hd h48
 go_enter Tryz.func75,Tryz.ntmps75
 go_wp2_with (first
  | (go_at_call 123;refine (HB.out _).mono ?_;rintro e w' ⟨rfl,rfl⟩)
  | (go_at_call 125;refine (HD.out _).mono ?_;rintro e w' ⟨rfl,rfl⟩)
  | (go_at_call 124;refine (HL.out _).mono ?_;rintro e w' ⟨rfl,rfl⟩))
 go_ret2
 exact ⟨by first|rfl|(simp;done)|(simp;omega),rfl⟩):P:=h
theorem rq42 {P:Prop} (h:P:=by
 go_enter Tryz.func75,Tryz.ntmps75
 go_wp2_with (first
  | (go_at_call 123;refine (HB.out _).mono ?_;rintro e w' ⟨rfl,rfl⟩)
  | (go_at_call 125;refine (HD.out _).mono ?_;rintro e w' ⟨rfl,rfl⟩)
  | (go_at_call 124;refine (HL.out _).mono ?_;rintro e w' ⟨rfl,rfl⟩))
 go_ret2
 exact ⟨rfl,rfl⟩):P:=h
theorem rq44 {P:Prop} (h:P:=by
 rw [hd];clear hd
 go_enter Tryz.func75,Tryz.ntmps75
 go_wp2_with (first
  | (go_at_call 123;refine (HB.out _).mono ?_;rintro e w' ⟨rfl,rfl⟩)
  | (go_at_call 124;refine (HL.out _).mono ?_;rintro e w' ⟨rfl,rfl⟩))
 go_ret2
 exact ⟨by first|rfl|(simp;done)|(simp;omega),rfl⟩):P:=h
theorem first_any (s:ByteArray) (w:World) (hs:s.size<=maxLen) (h0:0<s.size) :
  Calls Tryz.prog 75 #[.string s] w fun e w'=>e=.returned (.tuple #[.int .i64 ((firstW s.data.toList).1:Nat),.bool (firstW s.data.toList).2])/\w=w':=by
 obtain ⟨r,hr⟩:=byte_cons h0
 have hf:=firstW_cons s[0] r
 rw [← hr] at hf
 have HF:=hd_ hf;clear hf hr
 have hs2:=hs
 unfold maxLen at hs2
 have h35:=byte_eq s[0] 35
 have h48:=byte_eq s[0] 48
 cases hlo:lowB s[0] with
 | true =>
  have HB:=hd_ (letter_is hlo)
  have HL:=hd_ (fun w'=>long_letter s w' hs)
  rw [HF.out,if_pos hlo]
  clear h35 h48 hlo HF
  generalize runB lowB s.data.toList=n at *
  by_cases h8:n<=8
  ·have hd:decide (n<=8)=true:=by simpa using h8
   exact rq44
  ·have hd:decide (n<=8)=false:=by simpa using h8
   exact rq44
 | false =>
  have HB:=hd_ (letter_is hlo)
  cases hdi:digB s[0] with
  | true =>
   have HD:=hd_ (digit_is hdi)
   have HL:=hd_ (fun w'=>long_digit s w' hs)
   rw [HF.out,if_neg (by simp [hlo]),if_pos hdi]
   clear h35 hlo HF hdi
   generalize runB digB s.data.toList=n at *
   have hcs:(6<n)∨(n<=6/\n=1)∨(n<=6/\n≠1):=by omega
   rcases hcs with h6|⟨h6,rfl⟩|⟨h6,hn1⟩
   ·have hd:(decide (n<=6)&&(decide (n=1)||!(s[0]==48)))=false:=by
     have:decide (n<=6)=false:=by simp;omega
     rw [this];rfl
    exact rq41
   ·have hd:(decide (1<=6)&&(decide (1=1)||!(s[0]==48)))=true:=rfl
    exact rq41
   ·have hb1:((n:Int)==1)=false:=by simp;omega
    have hd:(decide (n<=6)&&(decide (n=1)||!(s[0]==48)))=!(s[0]==48):=by
     have h1:decide (n<=6)=true:=by simpa using h6
     have h2:decide (n=1)=false:=by simpa using hn1
     rw [h1,h2];simp
    rw [hd];clear hd
    rw [← h48]
    clear h48 hn1
    cases h4:((s[0].toNat:Int)==((48:UInt8).toNat:Int)) with
    | true =>
     have h5:((s[0].toNat:Int)==48)=true:=h4
     have h6:((s[0].toNat:Int) != 48)=false:=by simp [bne,h5]
     exact rq42
    | false =>
     have h5:((s[0].toNat:Int)==48)=false:=h4
     have h6:((s[0].toNat:Int) != 48)=true:=by simp [bne,h5]
     exact rq42
  | false =>
   have HD:=hd_ (digit_is hdi)
   cases h4:(s[0]==35) with
   | true =>
    have h5:((s[0].toNat:Int)==35)=true:=by rw [← h4];exact h35
    have HL:=hd_ (fun w'=>note_any s w' hs)
    rw [HF.out,if_neg (by simp [hlo]),if_neg (by simp [hdi]),if_pos h4]
    generalize decide (runB nlB s.data.toList<=runB prB s.data.toList)=b at *
    generalize runB nlB s.data.toList=n at *
    clear h35 h48 hlo HF hdi h4
    go_enter Tryz.func75,Tryz.ntmps75
    go_wp2_with (first
     | (go_at_call 123;refine (HB.out _).mono ?_;rintro e w' ⟨rfl,rfl⟩)
     | (go_at_call 125;refine (HD.out _).mono ?_;rintro e w' ⟨rfl,rfl⟩)
     | (go_at_call 126;refine (HL.out _).mono ?_;rintro e w' ⟨rfl,rfl⟩))
    go_ret2
    exact ⟨rfl,rfl⟩
   | false =>
    have h5:((s[0].toNat:Int)==35)=false:=by rw [← h4];exact h35
    have HI:=hd_ (fun w'=>Tryz.strings_IndexByte ⟨#[40,41,91,93,44,43,42,61,59]⟩ (s[0].toNat:Int) w')
    have hsi:=sign_is s[0]
    have hcc:((s[0].toNat:Int)).toNat.toUInt8=s[0]:=by simp
    rw [hcc] at HI
    rw [HF.out,if_neg (by simp [hlo]),if_neg (by simp [hdi]),if_neg (by simp [h4]),← hsi]
    have hx:Lib.indexByte (⟨#[40,41,91,93,44,43,42,61,59]⟩:ByteArray).data.toList s[0]=Lib.indexByte [40,41,91,93,44,43,42,61,59] s[0]:=rfl
    rw [hx] at HI
    generalize Lib.indexByte [40,41,91,93,44,43,42,61,59] s[0]=x at *
    clear h35 h48 hlo HF hdi h4 hsi hcc hx
    by_cases hx0:0<=x
    ·have hd:decide (0<=x)=true:=by simpa using hx0
     exact rq40
    ·have hd:decide (0<=x)=false:=by simpa using hx0
     exact rq40
theorem many_w (l:List ByteArray) (A:Option Addr) (n c:Nat) (hn:l.length=n) (w:World) (hl:Txs w w.heap.size A l) (hne:∀ t ∈ l,0<t.size) :
  Calls Tryz.prog 77 #[.slice A n c] w fun e w'=>e=.returned (.int .i64 (manyW l:Nat))/\w=w':=by
 subst hn
 have hm:=hl.2.1
 unfold maxLen at hm
 have HN:=hd_ hl;have HE:=hd_ hne;clear hl hne
 go_enter Tryz.func77,Tryz.ntmps77
 go_wp2
 go_loop [3,5,8] (fun m _ i=>∃ k q:Nat,k<=l.length/\i=.int .i64 k/\m=.int .i64 q/\manyW (l.take k)=q/\q<=k) (fun _ _ i=>l.length-(intOf i).toNat)
 case atStart=>exact ⟨0,0,Nat.zero_le _,rfl,rfl,rfl,by omega⟩
 case round =>
  obtain ⟨k,q,hk,rfl,rfl,hq,hqk⟩:=hrel
  have HQ:=hd_ hq;clear hq
  by_cases hlt:k<l.length
  ·obtain ⟨b,off,t,rfl,hb,ht,hts,hc⟩:=HN.out.one (Below.refl _ _) hlt
   have h0:0<t.size:=by have:=HE.out _ (List.getElem_mem hlt);rw [ht] at this;exact this
   obtain ⟨r,hr⟩:=byte_cons h0
   have hst:=manyW_take hlt
   rw [ht,hr,HQ.out] at hst
   simp only [List.head?_cons,Option.some.injEq] at hst
   have h35:=byte_eq t[0] 35
   clear hr ht
   cases h4:(t[0]==35) with
   | true =>
    have h5:((t[0].toNat:Int)==35)=true:=by rw [← h4];exact h35
    have h6:((t[0].toNat:Int) != 35)=false:=by simp [bne,h5]
    rw [if_pos (by simpa using h4)] at hst
    have HST:=hd_ hst;clear hst h35 h4
    go_wp2
    go_round
    case rel=>exact ⟨k+1,q,by omega,by go_num,rfl,HST.out,by omega⟩
    case measure=>simp [intOf];omega
   | false =>
    have h5:((t[0].toNat:Int)==35)=false:=by rw [← h4];exact h35
    have h6:((t[0].toNat:Int) != 35)=true:=by simp [bne,h5]
    rw [if_neg (by simpa using h4)] at hst
    have HST:=hd_ hst;clear hst h35 h4
    go_wp2
    go_round
    case rel=>exact ⟨k+1,q+1,by omega,by go_num,by go_num,HST.out,by omega⟩
    case measure=>simp [intOf];omega
  ·have hz:manyW l=q:=by rw [← HQ.out,List.take_of_length_le (by omega)]
   have HZ:=hd_ hz;clear hz
   go_wp2
   go_ret
   exact ⟨by rw [HZ.out];rfl,rfl⟩
def wordBs (ws:List (Nat × List UInt8)):List ByteArray:=ws.map fun p=>⟨p.2.toArray⟩
def placeV (ws:List (Nat × List UInt8)):List Value:=ws.map fun p=>.int .i64 (p.1:Nat)
def lexE (s:ByteArray):Int × Nat :=
 if 60000<s.size then (3,0) else
 match (lexL 0 s.data.toList).2 with
 | some i=>(5,i)
 | none=>if 300<manyW (wordBs (lexL 0 s.data.toList).1) then (3,0) else (0,0)
def lexWs (s:ByteArray):List (Nat × List UInt8):=(lexL 0 s.data.toList).1
theorem lex_pos:∀ (n i:Nat) (s:List UInt8),s.length<=n->∀ p ∈ (lexL i s).1,0<p.2.length:=fun n i s h p hp=>(lex_words n i s h p hp).pos
theorem int_info:(Tryz.prog.info? 3).map (fun i=>(i.zero,i.size,i.bytes))=some (some (.int .i64 0),1,8):=by kernel_rfl
theorem str_info:(Tryz.prog.info? 9).map (fun i=>(i.zero,i.size,i.bytes))=some (some (.string .empty),1,16):=by kernel_rfl
theorem own_slice {w:World} {base:Nat} {e:TypeId} {size n:Nat} {v:Value} {xs:List Value} (h:w.ownsRow base e size v n xs):∃ A c,v=.slice A n c:=by
 rcases h.2 with ⟨rfl,rfl⟩|⟨g,cap,cur,rfl,_⟩
 ·exact ⟨none,0,rfl⟩
 ·exact ⟨_,cap,rfl⟩
theorem rows_apartL {w:World} {e f:TypeId} {u v:Value} {m n:Nat} {xs ys:List Value} {B C:Nat} {sz sz':Nat} (h1:w.ownsRow B e sz u m xs) (h2:w.ownsRow C f sz' v n ys) (hef:e≠f):u.ownBlock=none∨u.ownBlock≠v.ownBlock:=by
 rcases h1.2 with ⟨rfl,_⟩|⟨g,cap,cur,rfl,_,hg,_⟩
 ·exact .inl rfl
 ·refine .inr fun he=>?_
  rcases h2.2 with ⟨rfl,_⟩|⟨g',cap',cur',rfl,_,hg',_⟩
  ·simp [Value.ownBlock] at he
  ·simp only [Value.ownBlock,Option.some.injEq] at he
   subst he
   rw [hg] at hg'
   simp only [Option.some.injEq,Obj.cells.injEq] at hg'
   exact hef hg'.2.1
def LexBad (s:ByteArray) (w:World) (e:Ending) (w':World):Prop:=e=.returned (.tuple #[.slice none 0 0,.slice none 0 0,.int .i64 ((lexE s).2:Nat),errV (lexE s).1])/\Below w.heap.size w w'
def LexOk (s:ByteArray) (w:World) (e:Ending) (w':World):Prop :=
 ∃ A c A2 c2,e=.returned (.tuple #[.slice A (lexWs s).length c,.slice A2 (lexWs s).length c2,.int .i64 0,.nilIface]) /\
  Txs w' w'.heap.size A (wordBs (lexWs s))/\Sl w' w'.heap.size 1 A2 (lexWs s).length (placeV (lexWs s))/\Below w.heap.size w w'
def LexOwn (s:ByteArray) (w:World) (e:Ending) (w':World):Prop :=
 ∃ A c A2 c2,e=.returned (.tuple #[.slice A (lexWs s).length c,.slice A2 (lexWs s).length c2,.int .i64 0,.nilIface]) /\
  Txs w' w'.heap.size A (wordBs (lexWs s))/\w'.ownsRow w.heap.size 3 1 (.slice A2 (lexWs s).length c2) (lexWs s).length (placeV (lexWs s))/\Below w.heap.size w w'/\w'.ownsRow w.heap.size 9 1 (.slice A (lexWs s).length c) (lexWs s).length ((wordBs (lexWs s)).map .string)
theorem LexOwn.ok {s:ByteArray} {w:World} {e:Ending} {w':World} (h:LexOwn s w e w'):LexOk s w e w':=by
 obtain ⟨A,c,A2,c2,h1,h2,h3,h4,_⟩:=h
 exact ⟨A,c,A2,c2,h1,h2,Sl.of_own h3,h4⟩
def LexToO (s:ByteArray) (w:World) (e:Ending) (w':World):Prop:=((lexE s).1≠0/\LexBad s w e w')∨((lexE s).1=0/\LexOwn s w e w')
theorem lex_full {s:ByteArray} (h:60000<s.size):lexE s=(3,0):=by rw [lexE,if_pos h]
theorem lex_bad {s:ByteArray} {i:Nat} (h:¬ 60000<s.size) (hb:(lexL 0 s.data.toList).2=some i):lexE s=(5,i):=by rw [lexE,if_neg h,hb]
theorem lex_many {s:ByteArray} (h:¬ 60000<s.size) (hb:(lexL 0 s.data.toList).2=none):lexE s=if 300<manyW (wordBs (lexWs s)) then (3,0) else (0,0):=by rw [lexE,if_neg h,hb];rfl
def LexAt (s:ByteArray) (i:Nat) (done:List (Nat × List UInt8)):Prop :=
 lexL 0 s.data.toList=(done++(lexL i (s.data.toList.drop i)).1,(lexL i (s.data.toList.drop i)).2)/\done.length<=i/\∀ p ∈ done,p.2.length<=s.size
theorem LexAt.start (s:ByteArray):LexAt s 0 []:=⟨by simp,by simp,by simp⟩
theorem LexAt.done_ {s:ByteArray} {i:Nat} {done:List (Nat × List UInt8)} (h:LexAt s i done) (hi:s.size<=i):lexWs s=done/\(lexL 0 s.data.toList).2=none:=by
 have h1:=h.1
 rw [List.drop_eq_nil_of_le (by simp;omega),lexL_nil] at h1
 unfold lexWs
 rw [h1];simp
theorem drop_cons {s:ByteArray} {i:Nat} (hi:i<s.size):s.data.toList.drop i=s[i]::s.data.toList.drop (i+1):=by
 rw [List.drop_eq_getElem_cons (by simpa using hi)];rfl
theorem LexAt.skip {s:ByteArray} {i:Nat} {done:List (Nat × List UInt8)} (h:LexAt s i done) (hi:i<s.size) (hc:(s[i]==32||s[i]==10)=true):LexAt s (i+1) done:=by
 have h1:=h.1
 rw [drop_cons hi,lexL_skip hc] at h1
 exact ⟨h1,by have:=h.2.1;omega,h.2.2⟩
theorem LexAt.fault {s:ByteArray} {i:Nat} {done:List (Nat × List UInt8)} (h:LexAt s i done) (hi:i<s.size) (hc:(s[i]==32||s[i]==10)=false) (hb:(firstW (s.data.toList.drop i)).2=false):(lexL 0 s.data.toList).2=some i:=by
 have h1:=h.1
 rw [drop_cons hi] at hb h1
 rw [lexL_bad hc hb] at h1
 rw [h1]
theorem trimR_le (l:List UInt8):(trimR l).length<=l.length:=by
 obtain ⟨k,hk⟩:=trimR_pre l
 have:=congrArg List.length hk
 simp at this;omega
theorem LexAt.word {s:ByteArray} {i n:Nat} {done:List (Nat × List UInt8)} (h:LexAt s i done) (hi:i<s.size) (hc:(s[i]==32||s[i]==10)=false) (hb:firstW (s.data.toList.drop i)=(n,true)) :
  0<n/\i+n<=s.size/\LexAt s (i+n) (done++[(i,trimR ((s.data.toList.drop i).take n))]):=by
 have h1:=h.1
 have hb2:=hb
 rw [drop_cons hi] at hb2
 have hp:=firstW_pos (c:=s[i]) (r:=s.data.toList.drop (i+1)) (by rw [hb2])
 rw [hb2] at hp
 rw [drop_cons hi,lexL_word hc (by rw [hb2]),hb2,← drop_cons hi] at h1
 simp only [List.length_cons,List.length_drop] at hp
 have hsz:s.data.toList.length=s.size:=by simp
 refine ⟨hp.1,by omega, ?_,by rw [List.length_append];have:=h.2.1;simp;omega, ?_⟩
 ·rw [h1,List.drop_drop]
  simp
 ·intro p hpm
  rcases List.mem_append.1 hpm with h2|h2
  ·exact h.2.2 p h2
  ·simp at h2
   subst h2
   have:=trimR_le ((s.data.toList.drop i).take n)
   rw [List.length_take,List.length_drop] at this
   show (trimR _).length<=_
   omega
theorem trim_lib (l:List UInt8):Lib.trimRightB l 32=trimR l:=rfl
theorem txs_of {w:World} {B:Nat} {A:Option Addr} {n c:Nat} {ws:List (Nat × List UInt8)} (h:w.ownsRow B 9 1 (.slice A n c) n ((wordBs ws).map .string)) (hn:ws.length=n) (hs:ws.length<=60000) (hz:∀ p ∈ ws,p.2.length<=60000):Txs w w.heap.size A (wordBs ws):=by
 refine ⟨?_,by simp [wordBs,maxLen];omega, ?_⟩
 ·have hl:(wordBs ws).length=n:=by simp [wordBs,hn]
  rw [hl]
  exact Sl.of_own h
 ·intro t ht
  obtain ⟨p,hp,rfl⟩:=List.mem_map.1 ht
  have:=hz p hp
  show p.2.toArray.size<=maxLen
  simp [maxLen];omega
theorem rq48 {P:Prop} (h:P:=by
 go_wp2
 go_roundw
 case rel=>exact ⟨k+1,done,by omega,by go_num,HN.out,HW.out,HP.out,hB⟩
 case measure=>simp [intOf];omega):P:=h
theorem lex_own (s:ByteArray) (w:World) (hs:s.size<=maxLen):Calls Tryz.prog 42 #[.string s] w (LexToO s w):=by
 unfold maxLen at hs
 by_cases h6:60000<s.size
 ·have HE:=hd_ (lex_full h6)
  go_enter Tryz.func42,Tryz.ntmps42
  go_wp2
  refine bodyPost_ret (v:=.tuple #[.slice none 0 0,.slice none 0 0,.int .i64 0,.iface 24 (.int .i64 3)]) (by simp [results,Tryz.results42,go_sem]) rfl ?_
  exact .inl ⟨by rw [HE.out];decide,by rw [HE.out];rfl,Below.refl _ _⟩
 ·obtain ⟨i0,hi0,hz0,hz1,hz2⟩:=info_parts int_info
  obtain ⟨iS,hiS,hzS,hzS1,hzS2⟩:=info_parts str_info
  go_enter Tryz.func42,Tryz.ntmps42
  go_wp2
  go_loopw [2,3,6,7,8] (fun ws at' i _ _ wr=>∃ (k:Nat) (done:List (Nat × List UInt8)),k<=s.size/\i=.int .i64 k/\LexAt s k done/\wr.ownsRow w.heap.size 9 1 ws done.length ((wordBs done).map .string)/\wr.ownsRow w.heap.size 3 1 at' done.length (placeV done)/\Below w.heap.size w wr) (fun _ _ i _ _ _=>s.size-(intOf i).toNat)
  case atStart=>exact ⟨0,[],by omega,rfl,LexAt.start s,World.ownsRow_nil _ _ _ _,World.ownsRow_nil _ _ _ _,Below.refl _ _⟩
  case round =>
   obtain ⟨k,done,hk,rfl,hat,hws,hpl,hB⟩:=hrel
   have hdl:=hat.2.1
   have HAT:=hd_ hat;have HW:=hd_ hws;have HP:=hd_ hpl;clear hat hws hpl
   by_cases hlt:k<s.size
   ·have e32:=byte_eq s[k] 32
    have e10:=byte_eq s[k] 10
    cases h32:(s[k]==32) with
    | true =>
     have h5:((s[k].toNat:Int)==32)=true:=by rw [← h32];exact e32
     have HN:=hd_ (HAT.out.skip hlt (by rw [h32];rfl))
     clear e32 e10 h32
     exact rq48
    | false =>
     have h5:((s[k].toNat:Int)==32)=false:=by rw [← h32];exact e32
     cases h10:(s[k]==10) with
     | true =>
      have h7:((s[k].toNat:Int)==10)=true:=by rw [← h10];exact e10
      have HN:=hd_ (HAT.out.skip hlt (by rw [h32,h10];rfl))
      clear e32 e10 h32 h10
      exact rq48
     | false =>
      have h7:((s[k].toNat:Int)==10)=false:=by rw [← h10];exact e10
      have hnb:(s[k]==32||s[k]==10)=false:=by rw [h32,h10];rfl
      have hez:(s.extract k s.size).size=s.size-k:=by simp
      have HF:=hd_ (fun w'=>first_any (s.extract k s.size) w' (by rw [hez];simp only [maxLen];omega) (by rw [hez];omega))
      rw [Lib.extract_to_end] at HF
      obtain ⟨n,b,hfw⟩:∃ n b,firstW (s.data.toList.drop k)=(n,b):=⟨_,_,rfl⟩
      rw [hfw] at HF
      cases b with
      | false =>
       have HX:=hd_ (lex_bad h6 (HAT.out.fault hlt hnb (by rw [hfw])))
       clear e32 e10 h32 h10 hnb hfw hez
       go_wp2_with (go_at_call 75;refine (HF.out _).mono ?_;rintro e w' ⟨rfl,rfl⟩)
       refine bodyPost_ret (v:=.tuple #[.slice none 0 0,.slice none 0 0,.int .i64 (k:Nat),.iface 24 (.int .i64 5)]) (by simp [results,Tryz.results42,go_sem]) rfl ?_
       exact .inl ⟨by rw [HX.out];show (5:Int)≠0;decide,by rw [HX.out];rfl,hB⟩
      | true =>
       obtain ⟨n0,hn1,hnext⟩:=HAT.out.word hlt hnb hfw
       have hex:(s.extract k (k+n)).data.toList=(s.data.toList.drop k).take n:=by rw [Lib.extract_data];congr 1;omega
       have HT:=hd_ (fun w'=>(Tryz.strings_TrimRight_one (s.extract k (k+n)) 32 (by decide) w' (by simp;omega)).mono fun e u (h:e=_/\u=w')=>(⟨h.1,h.2.symm⟩:e=_/\w'=u))
       rw [hex,trim_lib] at HT
       have hwb:wordBs (done++[(k,trimR ((s.data.toList.drop k).take n))])=wordBs done++[⟨(trimR ((s.data.toList.drop k).take n)).toArray⟩]:=by simp [wordBs]
       have hpv:placeV (done++[(k,trimR ((s.data.toList.drop k).take n))])=placeV done++[.int .i64 (k:Nat)]:=by simp [placeV]
       have HNX:=hd_ hnext;have HWB:=hd_ hwb;have HPV:=hd_ hpv
       generalize trimR ((s.data.toList.drop k).take n)=t at *
       clear e32 e10 h32 h10 hnb hfw hez hex hnext hwb hpv
       have hsz:=hB.size
       have NE:Hid ((3:TypeId)≠9):=hd_ (by decide)
       go_wp2_with (first
        | (go_at_call 75;refine (HF.out _).mono ?_;rintro e w' ⟨rfl,rfl⟩)
        | (go_at_call 76;refine (HT.out _).mono ?_;rintro e w' ⟨rfl,rfl⟩)
        | (at_builtin;refine wpList_app _ rfl (.tmp 40) (.tmp 48) _ rfl w.heap.size 9 iS (.string .empty) 1 16 Tryz.underlying72 hiS hzS hzS1 hzS2 rfl (by decide) _ done.length _ rfl (HW.out.alloc _) _ _ 1 1 [.string ⟨t.toArray⟩] rfl (Sl.lit (sz:=1) _ #[.string ⟨t.toArray⟩] 9 1 rfl) (by simp [Value.oneCell']) (by simp only [maxLen];omega) (by omega) (by simp;omega) ?_;intro v3 w3 hown3 hgr3 _;have hB3:Below w.heap.size w w3:=below_app (hB.alloc hsz _) (HW.out.alloc _) hgr3 (hB.alloc hsz _).size (Nat.le_refl _);have HP3:=hd_ ((HP.out.alloc _).kept hgr3 (rows_apartL HP.out HW.out NE.out));have HO3:=hd_ hown3;have hsz3:=hB3.size;clear hown3 hgr3)
        | (at_builtin;refine wpList_app _ rfl (.tmp 50) (.tmp 52) _ rfl w.heap.size 3 i0 (.int .i64 0) 1 8 Tryz.underlying73 hi0 hz0 hz1 hz2 rfl (by decide) _ done.length _ rfl (HP3.out.alloc _) _ _ 1 1 [.int .i64 (k:Nat)] rfl (Sl.lit (sz:=1) _ #[.int .i64 (k:Nat)] 3 1 rfl) (by simp [Value.oneCell']) (by simp only [maxLen];omega) (by omega) (by simp;omega) ?_;intro v4 w4 hown4 hgr4 _;have hB4:Below w.heap.size w w4:=below_app (hB3.alloc hsz3 _) (HP3.out.alloc _) hgr4 (hB3.alloc hsz3 _).size (Nat.le_refl _);have HO4:=hd_ ((HO3.out.alloc _).kept hgr4 (rows_apartL HO3.out HP3.out NE.out.symm));have HP4:=hd_ hown4;clear hown4 hgr4))
       go_roundw
       case measure=>simp [intOf];omega
       case rel =>
        have hl:(done++[(k,t)]).length=done.length+1:=by simp
        refine ⟨k+n,done++[(k,t)],by omega,by go_num,HNX.out, ?_, ?_,hB4⟩
        ·rw [hl,HWB.out,List.map_append];exact HO4.out
        ·rw [hl,HPV.out];exact HP4.out
   ·obtain ⟨hd1,hd2⟩:=HAT.out.done_ (by omega)
    have hle:=lex_many h6 hd2
    have hpos:∀ t ∈ wordBs done,0<t.size:=by
     intro t ht
     obtain ⟨p,hp,rfl⟩:=List.mem_map.1 ht
     have:=lex_pos _ 0 s.data.toList (Nat.le_refl _) p (by rw [← hd1] at hp;exact hp)
     simpa [ByteArray.size] using this
    have hz:∀ p ∈ done,p.2.length<=60000:=fun p hp=>by have:=HAT.out.2.2 p hp;omega
    have hln:(wordBs done).length=done.length:=by simp [wordBs]
    obtain ⟨A3,c3,rfl⟩:=own_slice HW.out
    obtain ⟨A4,c4,rfl⟩:=own_slice HP.out
    have htx:=txs_of HW.out rfl (by omega) hz
    have HM:=hd_ (many_w (wordBs done) A3 done.length c3 hln wr htx hpos)
    have HTX:=hd_ htx;have HD1:=hd_ hd1
    rw [hd1] at hle
    clear htx hpos hd1 hd2 hz hln
    generalize manyW (wordBs done)=q at *
    by_cases h300:300<q
    ·rw [if_pos h300] at hle
     have HE:=hd_ hle;clear hle
     go_wp2_with (go_at_call 77;refine HM.out.mono ?_;rintro e w' ⟨rfl,rfl⟩)
     refine bodyPost_ret (v:=.tuple #[.slice none 0 0,.slice none 0 0,.int .i64 0,.iface 24 (.int .i64 3)]) (by simp [results,Tryz.results42,go_sem]) rfl ?_
     exact .inl ⟨by rw [HE.out];show (3:Int)≠0;decide,by rw [HE.out];rfl,hB⟩
    ·rw [if_neg h300] at hle
     have HE:=hd_ hle;clear hle
     go_wp2_with (go_at_call 77;refine HM.out.mono ?_;rintro e w' ⟨rfl,rfl⟩)
     refine bodyPost_ret (v:=.tuple #[.slice A3 done.length c3,.slice A4 done.length c4,.int .i64 0,.nilIface]) (by simp [results,Tryz.results42,go_sem]) rfl ?_
     refine .inr ⟨by rw [HE.out],A3,c3,A4,c4,by rw [HD1.out], ?_, ?_,hB, ?_⟩
     ·rw [HD1.out];exact HTX.out
     ·rw [HD1.out];exact HP.out
     ·rw [HD1.out];exact HW.out
theorem trimR_take (l:List UInt8):l.take (trimR l).length=trimR l:=by
 obtain ⟨k,hk⟩:=trimR_pre l
 have h:l.take (trimR l).length=(trimR l++List.replicate k 32).take (trimR l).length:=by rw [← hk]
 rw [h,List.take_left]
theorem lex_spots:∀ (n i:Nat) (l:List UInt8),l.length<=n ->
  (∀ p ∈ (lexL i l).1,i<=p.1/\p.1+p.2.length<=i+l.length/\(l.drop (p.1-i)).take p.2.length=p.2)/\(lexL i l).1.Pairwise (fun a b=>a.1+a.2.length<=b.1):=by
 intro n
 induction n with
 | zero =>
  intro i l hn
  obtain rfl:l=[]:=List.eq_nil_of_length_eq_zero (by omega)
  rw [lexL_nil];exact ⟨by simp,.nil⟩
 | succ n ih =>
  intro i l hn
  cases l with
  | nil=>rw [lexL_nil];exact ⟨by simp,.nil⟩
  | cons c r =>
   simp only [List.length_cons] at hn
   cases hc:(c==32||c==10) with
   | true =>
    rw [lexL_skip hc]
    obtain ⟨h1,h2⟩:=ih (i+1) r (by omega)
    refine ⟨fun p hp=>?_,h2⟩
    obtain ⟨g1,g2,g3⟩:=h1 p hp
    refine ⟨by omega,by rw [List.length_cons];omega, ?_⟩
    rw [show p.1-i=(p.1-(i+1))+1 by omega,List.drop_succ_cons];exact g3
   | false =>
    cases hb:(firstW (c::r)).2 with
    | false=>rw [lexL_bad hc hb];exact ⟨by simp,.nil⟩
    | true =>
     have hp:=firstW_pos hb
     rw [lexL_word hc hb]
     generalize (firstW (c::r)).1=m at *
     obtain ⟨h1,h2⟩:=ih (i+m) ((c::r).drop m) (by rw [List.length_drop,List.length_cons];omega)
     have ht:=trimR_le ((c::r).take m)
     rw [List.length_take,Nat.min_eq_left hp.2] at ht
     refine ⟨fun p hpm=>?_, ?_⟩
     ·rcases List.mem_cons.1 hpm with rfl|hpm
      ·refine ⟨Nat.le_refl _,by simp only;omega, ?_⟩
       simp only [Nat.sub_self,List.drop_zero]
       have h3:=trimR_take ((c::r).take m)
       rw [List.take_take,Nat.min_eq_left ht] at h3
       exact h3
      ·obtain ⟨g1,g2,g3⟩:=h1 p hpm
       rw [List.length_drop] at g2
       refine ⟨by omega,by omega, ?_⟩
       rw [List.drop_drop] at g3
       rw [show p.1-i=m+(p.1-(i+m)) by omega];exact g3
     ·rw [List.pairwise_cons]
      refine ⟨fun p hpm=>?_,h2⟩
      have:=(h1 p hpm).1
      simp only;omega
theorem lexWs_len {s:ByteArray} (hs:s.size<=60000):∀ p ∈ lexWs s,p.2.length<=60000/\p.1+p.2.length<=s.size/\0<p.2.length:=by
 intro p hp
 have h:=(lex_spots _ 0 s.data.toList (Nat.le_refl _)).1 p hp
 have h2:=lex_pos _ 0 s.data.toList (Nat.le_refl _) p hp
 have h3:s.data.toList.length=s.size:=by simp
 omega
theorem lexE_parts {s:ByteArray} (h:(lexE s).1=0):s.size<=60000/\(lexL 0 s.data.toList).2=none/\manyW (wordBs (lexWs s))<=300:=by
 unfold lexE at h
 split at h
 ·cases h
 ·split at h
  ·cases h
  ·rename_i hn
   split at h
   ·cases h
   ·exact ⟨by omega,hn,by unfold lexWs;omega⟩
theorem lexWs_count {s:ByteArray} (h:(lexE s).1=0):(lexWs s).length<=60000:=by
 have hp:=lexE_parts h
 have hs:=lex_spots _ 0 s.data.toList (Nat.le_refl _)
 have main:∀ (ws:List (Nat × List UInt8)) (a:Nat),(∀ p ∈ ws,a<=p.1/\p.1+p.2.length<=s.size/\0<p.2.length)->ws.Pairwise (fun a b=>a.1+a.2.length<=b.1)->ws.length+a<=s.size+0∨ws=[]:=by
  intro ws
  induction ws with
  | nil=>intro a _ _;exact .inr rfl
  | cons p r ih =>
   intro a h1 h2
   rw [List.pairwise_cons] at h2
   obtain ⟨g1,g2,g3⟩:=h1 p (by simp)
   left
   rcases ih (p.1+p.2.length) (fun q hq=>⟨h2.1 q hq,(h1 q (by simp [hq])).2⟩) h2.2 with h3|h3
   ·simp only [List.length_cons];omega
   ·subst h3;simp only [List.length_cons,List.length_nil];omega
 rcases main (lexWs s) 0 (fun p hp2=>⟨Nat.zero_le _,(lexWs_len hp.1 p hp2).2⟩) hs.2 with h3|h3
 ·omega
 ·rw [h3];simp
end Go.Proofs.YtddfdmopaeghnadGreatDoor
