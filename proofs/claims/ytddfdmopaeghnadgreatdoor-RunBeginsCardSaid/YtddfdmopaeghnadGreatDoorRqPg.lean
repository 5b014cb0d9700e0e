/- Walk: page. With what it rests on. Conditions: as each theorem states them. -/
import Derived.Test.YtddfdmopaeghnadGreatDoorRqPa
import Derived.Test.YtddfdmopaeghnadGreatDoorRqPs
import Derived.Test.YtddfdmopaeghnadGreatDoorRqBe
import Derived.Lib.Split
import Derived.Lib.SplitLaws
import Derived.Test.YtddfdmopaeghnadGreatDoorRqTr
set_option maxRecDepth 100000
set_option maxHeartbeats 16000000
namespace Go.Proofs.YtddfdmopaeghnadGreatDoor
open Go.RowKit
def formE (W:Int):List (List Nd)->Int
 | []=>0
 | u::r=>if oneQ u W≠0 then oneQ u W else formE W r
def formT (W:Int):List (List Nd)->ByteArray
 | []=>.empty
 | u::r=>oneX u W++formT W r
theorem formT_step (W:Int) {p:List (List Nd)} {k:Nat} {u:List Nd} (hu:p[k]?=some u):formT W (p.take (k+1))=formT W (p.take k)++oneX u W:=by
 have happ:∀ a b:List (List Nd),formT W (a++b)=formT W a++formT W b:=fun a b=>by
  induction a with
  | nil=>simp [formT]
  | cons x r ih=>simp [formT,ih,ByteArray.append_assoc]
 rw [List.take_add_one,hu,happ]
 simp [formT]
theorem formE_step (W:Int) {p:List (List Nd)} {k:Nat} {u:List Nd} (hu:p[k]?=some u) (h:formE W (p.drop k)=formE W p):(oneQ u W≠0->formE W p=oneQ u W)/\(oneQ u W=0->formE W (p.drop (k+1))=formE W p):=by
 obtain ⟨hk,rfl⟩:=List.getElem?_eq_some_iff.1 hu
 rw [List.drop_eq_getElem_cons hk,formE] at h
 constructor
 ·intro hq;rw [if_pos hq] at h;exact h.symm
 ·intro hq;rw [if_neg (by simpa using hq)] at h;exact h
def fmtF (s:ByteArray) (W:Int):Int × Nat × ByteArray :=
 if wideF W=false then (1,0,.empty)
 else if (parseF s).1≠0 then ((parseF s).1,(parseF s).2.1,.empty)
 else if formE W (parseF s).2.2≠0 then (formE W (parseF s).2.2,0,.empty)
 else (0,0,formT W (parseF s).2.2)
def FmtTo (T:ByteArray) (k:Nat) (v:Value) (w:World) (e:Ending) (w':World):Prop:=e=.returned (.tuple #[.string T,.int .i64 (k:Nat),v])/\Below w.heap.size w w'
theorem fmt_bad (s:ByteArray) (W:Int) (w:World) (hs:s.size<=maxLen) (hm:MaxL w) (h:wideF W=false∨(parseF s).1≠0) :
  Calls Tryz.prog 20 #[.string s,.int .i64 W] w (FmtTo .empty (fmtF s W).2.1 (.iface 24 (.int .i64 (fmtF s W).1)) w):=by
 have HW:=hd_ (fun w'=>wide_any W w')
 by_cases hw:wideF W=false
 ·have hr:fmtF s W=(1,0,.empty):=by rw [fmtF,if_pos hw]
  rw [hr]
  rw [hw] at HW
  clear hs hm h hw hr
  go_enter Tryz.func20,Tryz.ntmps20
  go_wp2_with (go_at_call 23;refine (HW.out _).mono ?_;rintro e w1 ⟨rfl,rfl⟩)
  go_ret3
  exact ⟨rfl,Below.refl _ _⟩
 ·have hw1:wideF W=true:=by simpa using hw
  have hf:(parseF s).1≠0:=by
   rcases h with h|h
   ·exact absurd h hw
   ·exact h
  have hr:fmtF s W=((parseF s).1,(parseF s).2.1,.empty):=by rw [fmtF,if_neg hw,if_pos hf]
  rw [hr]
  rw [hw1] at HW
  have HP:=hd_ (parse_bad hf w hs hm)
  generalize parseF s=r at *
  clear hs hm h hw hw1 hr hf
  go_enter Tryz.func20,Tryz.ntmps20
  go_wp2_with (first
   | (go_at_call 23;refine (HW.out _).mono ?_;rintro e w1 ⟨rfl,rfl⟩)
   | (go_at_call 21;refine HP.out.mono ?_;rintro e w2 ⟨A2,c2,rfl,hF,hB⟩;have HB:=hd_ hB;clear hF hB))
  go_ret3
  exact ⟨rfl,HB.out⟩
theorem fmt_any (s:ByteArray) (W:Int) (w:World) (hs:s.size<=maxLen) (hm:MaxL w) (hp:PowT w) :
  Calls Tryz.prog 20 #[.string s,.int .i64 W] w (FmtTo (fmtF s W).2.2 (fmtF s W).2.1 (errV (fmtF s W).1) w):=by
 by_cases hbad:wideF W=false∨(parseF s).1≠0
 ·have h1:=fmt_bad s W w hs hm hbad
  have h2:(fmtF s W).2.2=.empty/\(fmtF s W).1≠0:=by
   unfold fmtF
   split
   ·exact ⟨rfl,by decide⟩
   ·split
    ·rename_i hf;exact ⟨rfl,hf⟩
    ·rename_i hw hf
     rcases hbad with h|h
     ·exact absurd h hw
     ·exact absurd h hf
  rw [h2.1,← errV_pos h2.2]
  exact h1
 ·have hw:wideF W=true:=by
   cases h:wideF W with
   | true=>rfl
   | false=>exact absurd (.inl h) hbad
  have hf:(parseF s).1=0:=by
   by_cases h:(parseF s).1=0
   ·exact h
   ·exact absurd (.inr h) hbad
  have HW:=hd_ (fun w'=>wide_any W w')
  rw [hw] at HW
  have hR:fmtF s W=if formE W (parseF s).2.2≠0 then (formE W (parseF s).2.2,0,.empty) else (0,0,formT W (parseF s).2.2):=by
   rw [fmtF,if_neg (by simp [hw]),if_neg (by simp [hf])]
  have hP:=parse_ok hf w hs hm
  have htr:=progF_facts (parsed_ok hf)
  have h20:=htr.1
  have HT:=hd_ htr.2.1
  rw [hR]
  generalize (parseF s).2.2=p at *
  generalize (parseF s).2.1=k0 at *
  have HE0:Hid (formE W p=0->(if formE W p≠0 then (formE W p,0,ByteArray.empty) else ((0:Int),(0:Nat),formT W p))=(0,0,formT W p)):=hd_ (fun h=>by rw [if_neg (by simpa using h)])
  have HE1:Hid (formE W p≠0->(if formE W p≠0 then (formE W p,0,ByteArray.empty) else ((0:Int),(0:Nat),formT W p))=(formE W p,0,.empty)):=hd_ (fun h=>by rw [if_pos h])
  have HP:=hd_ hP
  have HM:=hd_ hm;have HPW:=hd_ hp
  have HSZ:Hid (∀ k,k<=p.length->(∀ j u,p[j]?=some u->j<k->oneQ u W=0)->(formT W (p.take k)).size<=1500000*k):=hd_ (fun k=>by
   induction k with
   | zero=>intro _ _;simp [formT]
   | succ k ih =>
    intro hk h
    have hlt:k<p.length:=by omega
    have hu:p[k]?=some p[k]:=List.getElem?_eq_getElem hlt
    rw [formT_step W hu,ByteArray.size_append]
    have h1:=ih (by omega) (fun j u hj hjk=>h j u hj (by omega))
    have hq:=h k p[k] hu (by omega)
    have ht:=(oneQ_zero hq).2.1
    have h2:=(oneX_is hq (fun h9=>docL_doc ht h9 (by have:=(oneQ_zero hq).2.2 h9;omega))).small
    omega)
  have hend:formE W (p.drop p.length)=formE W p->formE W p=0:=fun h=>by rw [← h,List.drop_length];rfl
  have HEND:=hd_ hend
  have HALL:Hid (∀ k,p.length<=k->formT W (p.take k)=formT W p):=hd_ (fun k hk=>by rw [List.take_of_length_le hk])
  clear hs hP hm hp hR htr hend hbad hw hf
  generalize hZ:(if formE W p≠0 then (formE W p,0,ByteArray.empty) else ((0:Int),(0:Nat),formT W p))=Z at *
  clear hZ
  go_enter Tryz.func20,Tryz.ntmps20
  go_wp2_with (first
   | (go_at_call 23;refine (HW.out _).mono ?_;rintro e w0 ⟨rfl,rfl⟩)
   | (go_at_call 21;refine HP.out.mono ?_;rintro e w1 ⟨P1,c1,rfl,hF,hB1⟩;have HPR:=hd_ hF.prg;have HB1:=hd_ hB1;clear hF hB1))
  have hb1:Below w1.heap.size w1 (w1.alloc (.cells #[.pointer none,.slice none 0 0] 88)):=(Below.refl _ _).alloc (Nat.le_refl _) _
  have HBD:Hid (Bld w1.heap.size w1.heap.size .empty (w1.alloc (.cells #[.pointer none,.slice none 0 0] 88))):=hd_ (Bld.new w1)
  have hz1:=HB1.out.size
  have HB0:=hd_ hb1
  clear hb1
  go_loopw [10,11,12,29] (fun _ _ _ i wr=>∃ k:Nat,k<=p.length/\i=.int .i64 k/\Hid (formE W (p.drop k)=formE W p/\∀ j u,p[j]?=some u->j<k->oneQ u W=0)/\Hid (Bld w1.heap.size w1.heap.size (formT W (p.take k)) wr)/\Hid (Below w1.heap.size w1 wr)) (fun _ _ _ i _=>p.length-(intOf i).toNat)
  case atStart=>exact ⟨0,by omega,rfl,hd_ ⟨rfl,fun j u hj hjk=>by omega⟩,HBD,HB0⟩
  case round =>
   clear HBD HB0
   obtain ⟨k,hk,rfl,HA,HBD,HB0⟩:=hrel
   by_cases hlt:k<p.length
   ·obtain ⟨b,off,Ak,ck,u,rfl,hb,hu,hc,hN,hS⟩:=HPR.out.one HB0.out hlt
    have hmem:u ∈ p:=List.mem_of_getElem? hu
    have hut:=HT.out u hmem
    have HB01:=hd_ (HB1.out.trans (HB0.out.mono hz1))
    obtain ⟨e1,e2⟩:=formE_step W hu HA.out.1
    by_cases hq:oneQ u W=0
    ·have hdc:opAt u 0≠9->∃ x,Doc (docL u) x:=fun h9=>docL_doc hut h9 (by have:=(oneQ_zero hq).2.2 h9;omega)
     have HONE:=hd_ (pone_ok (fun l x A c w hl hd=>of_from l x A c w hl hd) u W Ak ck wr hN hS (HM.out.past HB01.out) (HPW.out.past HB01.out) hdc hq)
     have hsm:=(oneX_is hq hdc).small
     have HST:=hd_ (formT_step W hu)
     have HA2:Hid (formE W (p.drop (k+1))=formE W p/\∀ j v,p[j]?=some v->j<k+1->oneQ v W=0):=hd_ ⟨e2 hq,fun j v hj hjk=>by
      by_cases hjk2:j=k
      ·subst hjk2;rw [hu] at hj;cases hj;exact hq
      ·exact HA.out.2 j v hj (by omega)⟩
     have hks:=HSZ.out k hk HA.out.2
     generalize formT W (p.take k)=Q at *
     generalize oneX u W=T at *
     have hz0:=HB0.out.size
     clear hN hS hu hmem hut e1 e2 hq hdc HA
     go_wp2_with (first
      | (go_at_call 22;refine HONE.out.mono ?_;rintro e w3 ⟨rfl,hB3⟩;have HB3:=hd_ (HBD.out.past hB3);have HB4:=hd_ (HB0.out.trans (hB3.mono hz0));clear hB3)
      | (go_at_call 35;refine (bld_write _ _ Q _ _ HB3.out (by omega)).mono ?_;rintro e w4 ⟨rfl,hb5,hB5⟩;have HB5:=hd_ hb5;have HB6:=hd_ (HB4.out.trans hB5);clear hb5 hB5))
     go_roundw
     case measure=>simp [intOf];omega
     case rel=>exact ⟨k+1,by omega,by go_num,HA2,hd_ (by rw [HST.out];exact HB5.out),HB6⟩
    ·have HONE:=hd_ (pone_bad u W Ak ck wr hN hS (HM.out.past HB01.out) (HPW.out.past HB01.out) hq)
     have hfe:=e1 hq
     have hzz:=HE1.out (by rw [hfe];exact hq)
     subst hzz
     have HV:=hd_ (errV_pos hq)
     rw [hfe]
     generalize oneQ u W=q at *
     clear hN hS hu hmem hut e1 e2 HA
     go_wp2_with (go_at_call 22;refine HONE.out.mono ?_;rintro e w3 ⟨rfl,hB3⟩;have HB4:=hd_ (HB01.out.trans (hB3.mono HB01.out.size));clear hB3)
     go_ret3
     exact ⟨by rw [← HV.out];rfl,HB4.out⟩
   ·have hkp:k=p.length:=by omega
    have h0:=HEND.out (by have:=HA.out.1;rwa [hkp] at this)
    have hzz:=HE0.out h0
    subst hzz
    have HBZ:Hid (Bld w1.heap.size w1.heap.size (formT W p) wr):=hd_ (by rw [← HALL.out k (by omega)];exact HBD.out)
    generalize formT W p=TT at *
    clear HBD
    go_wp2_with (go_at_call 37;refine (bld_string _ _ _ _ HBZ.out).mono ?_;rintro e w5 ⟨rfl,hB5⟩;have HB7:=hd_ (HB1.out.trans ((HB0.out.trans hB5).mono hz1));clear hB5)
    go_ret3
    exact ⟨rfl,HB7.out⟩
end Go.Proofs.YtddfdmopaeghnadGreatDoor
namespace Go.Proofs.YtddfdmopaeghnadGreatDoor
open Go.RowKit
theorem parse_okB {s:ByteArray} {k n:Nat} {l:List (List Nd)} (h:parseF s=(0,k,l)) (hn:l.length=n) (w:World) (hs:s.size<=maxLen) (hm:MaxL w):Calls Tryz.prog 21 #[.string s] w fun e w'=>∃ A c,e=.returned (.tuple #[.slice A n c,.int .i64 (k:Nat),.nilIface])/\PrgF w.heap.size w' A l/\Below w.heap.size w w':=by
 have:=parse_ok (s:=s) (by rw [h]) w hs hm
 rw [h] at this
 subst hn
 exact this
theorem parse_badB {s:ByteArray} {f:Int} {k n:Nat} {l:List (List Nd)} (h:parseF s=(f,k,l)) (hf:f≠0) (hn:l.length=n) (w:World) (hs:s.size<=maxLen) (hm:MaxL w):Calls Tryz.prog 21 #[.string s] w fun e w'=>∃ A c,e=.returned (.tuple #[.slice A n c,.int .i64 (k:Nat),.iface 24 (.int .i64 f)])/\PrgF w.heap.size w' A l/\Below w.heap.size w w':=by
 have:=parse_bad (s:=s) (by rw [h];exact hf) w hs hm
 rw [h] at this
 subst hn
 exact this
end Go.Proofs.YtddfdmopaeghnadGreatDoor
namespace Go.Proofs.YtddfdmopaeghnadGreatDoor
def difL:Nat->List UInt8->List UInt8->Int
 | _,[],[]=>-1
 | n,[],c::_=>if c=10 then (n+1:Nat) else n
 | n,c::_,[]=>if c=10 then (n+1:Nat) else n
 | n,a::x,b::y=>if a=b then difL (if a=10 then n+1 else n) x y else n
def cut1:List UInt8->List (List UInt8)
 | []=>[[]]
 | a::r=>if a=10 then []::cut1 r else match cut1 r with
  | []=>[[a]]
  | x::y=>(a::x)::y
theorem cut1_ne (l:List UInt8):∃ x y,cut1 l=x::y:=by
 cases l with
 | nil=>exact ⟨_,_,rfl⟩
 | cons a r =>
  rw [cut1]
  split
  ·exact ⟨_,_,rfl⟩
  ·split
   ·exact ⟨_,_,rfl⟩
   ·exact ⟨_,_,rfl⟩
theorem cut1_nl (r:List UInt8):cut1 (10::r)=[]::cut1 r:=by rw [cut1,if_pos rfl]
theorem cut1_no {a:UInt8} {r x:List UInt8} {y:List (List UInt8)} (h:a≠10) (e:cut1 r=x::y):cut1 (a::r)=(a::x)::y:=by rw [cut1,if_neg h,e]
def dL {α:Type} [DecidableEq α]:Nat->List α->List α->Nat
 | n,x::a,y::b=>if x=y then dL (n+1) a b else n
 | n,_,_=>n
theorem dL_same {α:Type} [DecidableEq α] (n:Nat) (x:α) (a b:List α):dL n (x::a) (x::b)=dL (n+1) a b:=by rw [dL,if_pos rfl]
theorem dL_no {α:Type} [DecidableEq α] {n:Nat} {x y:α} (a b:List α) (h:x≠y):dL n (x::a) (y::b)=n:=by rw [dL,if_neg h]
theorem dL_nil {α:Type} [DecidableEq α] (n:Nat) (b:List α):dL n [] b=n:=by rw [dL];intros;contradiction
theorem dL_nilR {α:Type} [DecidableEq α] (n:Nat) (a:List α):dL n a []=n:=by rw [dL];intros;contradiction
theorem difL_is:∀ (a b:List UInt8) (n:Nat),difL n a b=if a=b then -1 else (dL n (cut1 a) (cut1 b):Int):=by
 intro a
 induction a with
 | nil =>
  intro b n
  cases b with
  | nil=>rfl
  | cons c y =>
   rw [difL,if_neg (show ¬ ([]:List UInt8)=c::y by simp)]
   by_cases h:c=10
   ·subst h
    rw [if_pos rfl,cut1_nl,show cut1 []=[[]] from rfl,dL_same,dL_nil]
   ·obtain ⟨u,v,e⟩:=cut1_ne y
    rw [if_neg h,cut1_no h e,show cut1 []=[[]] from rfl,dL_no _ _ (by simp)]
 | cons a x ih =>
  intro b n
  cases b with
  | nil =>
   rw [difL,if_neg (show ¬ a::x=[] by simp)]
   by_cases h:a=10
   ·subst h
    rw [if_pos rfl,cut1_nl,show cut1 []=[[]] from rfl,dL_same,dL_nilR]
   ·obtain ⟨u,v,e⟩:=cut1_ne x
    rw [if_neg h,cut1_no h e,show cut1 []=[[]] from rfl,dL_no _ _ (by simp)]
  | cons b y =>
   obtain ⟨u,v,e⟩:=cut1_ne x
   obtain ⟨u',v',e'⟩:=cut1_ne y
   rw [difL]
   by_cases hab:a=b
   ·subst hab
    rw [if_pos rfl,ih]
    simp only [List.cons.injEq,true_and]
    by_cases h:a=10
    ·subst h
     rw [if_pos rfl,cut1_nl,cut1_nl,dL_same]
    ·rw [if_neg h,cut1_no h e,cut1_no h e',e,e']
     by_cases hu:u=u'
     ·subst hu
      rw [dL_same,dL_same]
     ·rw [dL_no _ _ hu,dL_no _ _ (by simpa using hu)]
   ·rw [if_neg hab,if_neg (by simp [hab])]
    by_cases h:a=10
    ·subst h
     rw [cut1_nl,cut1_no (fun hb=>hab hb.symm) e',dL_no _ _ (by simp)]
    ·by_cases h':b=10
     ·subst h'
      rw [cut1_nl,cut1_no h e,dL_no _ _ (by simp)]
     ·rw [cut1_no h e,cut1_no h' e',dL_no _ _ (by simp [hab])]
theorem occ_nl (l:List UInt8) (i:Nat):Lib.occAt l [10] i=(l[i]?==some 10):=by
 unfold Lib.occAt
 cases hd:l.drop i with
 | nil =>
  have:l.length<=i:=by have:=congrArg List.length hd;rw [List.length_drop,List.length_nil] at this;omega
  rw [List.getElem?_eq_none this];rfl
 | cons a r =>
  have:l[i]?=some a:=by
   have h:=congrArg (fun x=>x[0]?) hd
   simp only [List.getElem?_drop,Nat.add_zero,List.getElem?_cons_zero] at h
   exact h
  rw [this]
  simp [List.isPrefixOf]
  rw [Bool.eq_iff_iff,beq_iff_eq,beq_iff_eq];exact eq_comm
theorem cut1_all {l:List UInt8} (h:(10:UInt8) ∉ l):cut1 l=[l]:=by
 induction l with
 | nil=>rfl
 | cons a r ih =>
  simp only [List.mem_cons,not_or] at h
  exact cut1_no (fun e=>h.1 e.symm) (ih h.2)
theorem cut1_app {a b:List UInt8} (h:(10:UInt8) ∉ a):cut1 (a++10::b)=a::cut1 b:=by
 induction a with
 | nil=>exact cut1_nl b
 | cons c r ih =>
  simp only [List.mem_cons,not_or] at h
  exact cut1_no (fun e=>h.1 e.symm) (ih h.2)
theorem splitK_cut:∀ (k:Nat) (l:List UInt8),Lib.count l [10]<=k->Lib.splitK [10] 0 k l=cut1 l:=by
 have hnone:∀ l:List UInt8,(10:UInt8) ∉ l->Lib.index l [10]=-1:=fun l h=>Lib.index_none (fun j hj=>by
  rw [occ_nl]
  cases e:l[j]? with
  | none=>rfl
  | some c =>
   have:c≠10:=fun hc=>h (hc▸List.mem_of_getElem? e)
   simpa using this)
 have hhit:∀ a b:List UInt8,(10:UInt8) ∉ a->Lib.index (a++10::b) [10]=(a.length:Nat):=fun a b h=>Lib.index_hit (fun j hj=>by
  rw [occ_nl,List.getElem?_append_left hj,List.getElem?_eq_getElem hj]
  have:a[j]≠10:=fun hc=>h (hc▸List.getElem_mem hj)
  simpa using this) (by simp) (by rw [occ_nl,List.getElem?_append_right (Nat.le_refl _)];simp)
 intro k
 induction k with
 | zero =>
  intro l h
  have hn:(10:UInt8) ∉ l:=fun hm=>by
   obtain ⟨a,b,e,hna⟩:=List.eq_append_cons_of_mem hm
   have hx:=hhit a b hna
   rw [← e] at hx
   have:=Lib.count_hit (by decide) hx
   omega
  rw [cut1_all hn];rfl
 | succ k ih =>
  intro l h
  by_cases hm:(10:UInt8) ∈ l
  ·obtain ⟨a,b,e,hna⟩:=List.eq_append_cons_of_mem hm
   have hx:=hhit a b hna
   rw [← e] at hx
   have hc:=Lib.count_hit (by decide) hx
   have hd:l.drop (a.length+1)=b:=by rw [e,← List.drop_drop,List.drop_left];rfl
   have ht:l.take a.length=a:=by rw [e,List.take_left]
   rw [Lib.splitK,hx,if_neg (by simp)]
   simp only [Int.toNat_natCast,Nat.add_zero,List.length_cons,List.length_nil,Nat.zero_add]
   simp only [List.length_cons,List.length_nil,Nat.zero_add,hd] at hc
   rw [hd,ht,ih b (by omega),e,cut1_app hna]
  ·rw [Lib.splitK,hnone l hm,if_pos (by simp),cut1_all hm]
end Go.Proofs.YtddfdmopaeghnadGreatDoor
namespace Go.Proofs.YtddfdmopaeghnadGreatDoor
open Go.RowKit
theorem differs_is {a b:ByteArray} (h:a≠b):difL 0 a.data.toList b.data.toList=(dL 0 (Lib.splitB ⟨#[10]⟩ 0 (Lib.countB a ⟨#[10]⟩) a) (Lib.splitB ⟨#[10]⟩ 0 (Lib.countB b ⟨#[10]⟩) b):Nat):=by
 have hne:a.data.toList≠b.data.toList:=fun e=>h (ByteArray.ext (Array.toList_inj.1 e))
 have hs:∀ s:ByteArray,(Lib.splitB ⟨#[10]⟩ 0 (Lib.countB s ⟨#[10]⟩) s).map (·.data.toList)=cut1 s.data.toList:=fun s=>by
  rw [Lib.splitB_data]
  exact splitK_cut _ _ (Nat.le_refl _)
 have hd:∀ (x y:List ByteArray) (n:Nat),dL n (x.map (·.data.toList)) (y.map (·.data.toList))=dL n x y:=by
  intro x
  induction x with
  | nil=>intro y n;rw [List.map_nil,dL_nil,dL_nil]
  | cons u x ih =>
   intro y n
   cases y with
   | nil=>rw [List.map_nil,dL_nilR,dL_nilR]
   | cons v y =>
    rw [List.map_cons,List.map_cons,dL,dL,ih]
    by_cases e:u=v
    ·rw [if_pos e,if_pos (by rw [e])]
    ·rw [if_neg e,if_neg (fun h=>e (ByteArray.ext (Array.toList_inj.1 h)))]
 rw [difL_is,if_neg hne,← hs a,← hs b,hd]
theorem dL_step {X Y:List ByteArray} {k R:Nat} (h:dL k (X.drop k) (Y.drop k)=R) (h1:k<X.length) (h2:k<Y.length):(X[k]=Y[k]->dL (k+1) (X.drop (k+1)) (Y.drop (k+1))=R)/\(X[k]≠Y[k]->k=R):=by
 rw [List.drop_eq_getElem_cons h1,List.drop_eq_getElem_cons h2,dL] at h
 constructor
 ·intro e;rwa [if_pos e] at h
 ·intro e;rwa [if_neg e] at h
theorem dL_end {X Y:List ByteArray} {k R:Nat} (h:dL k (X.drop k) (Y.drop k)=R) (h1:¬ (k<X.length/\k<Y.length)):k=R:=by
 by_cases h2:k<X.length
 ·rw [show Y.drop k=[] from List.drop_eq_nil_of_le (by omega),dL_nilR] at h;exact h
 ·rw [show X.drop k=[] from List.drop_eq_nil_of_le (by omega),dL_nil] at h;exact h
theorem split_txs {w:World} (s:ByteArray) (hs:s.size<=4000000000):Txs (w.alloc (.cells ((Lib.splitB ⟨#[10]⟩ 0 (Lib.countB s ⟨#[10]⟩) s).map Value.string).toArray 9)) (w.alloc (.cells ((Lib.splitB ⟨#[10]⟩ 0 (Lib.countB s ⟨#[10]⟩) s).map Value.string).toArray 9)).heap.size (some ⟨w.heap.size,0,none⟩) (Lib.splitB ⟨#[10]⟩ 0 (Lib.countB s ⟨#[10]⟩) s):=by
 have hl:(Lib.splitB ⟨#[10]⟩ 0 (Lib.countB s ⟨#[10]⟩) s).length=Lib.countB s ⟨#[10]⟩+1:=Lib.splitB_all ⟨#[10]⟩ (by decide) 0 _ s rfl
 have hle:Lib.countB s ⟨#[10]⟩<=s.size:=Lib.countB_le ⟨#[10]⟩ (by decide) s.size s (Nat.le_refl _)
 have hz:∀ x ∈ Lib.splitB ⟨#[10]⟩ 0 (Lib.countB s ⟨#[10]⟩) s,x.size<=s.size:=splitB_size ⟨#[10]⟩ 0 _ s
 have h:=Sl.lit (sz:=1) w ((Lib.splitB ⟨#[10]⟩ 0 (Lib.countB s ⟨#[10]⟩) s).map Value.string).toArray 9 (Lib.splitB ⟨#[10]⟩ 0 (Lib.countB s ⟨#[10]⟩) s).length (by simp)
 exact ⟨by simpa using h,by simp only [maxLen];omega,fun x hx=>by have:=hz x hx;simp only [maxLen];omega⟩
theorem split_is (s:ByteArray) (hs:s.size<=4000000000) {n:Nat} (hn:(Lib.splitB ⟨#[10]⟩ 0 (Lib.countB s ⟨#[10]⟩) s).length=n) (w:World) (hm:MaxL w):Calls Tryz.prog 122 #[.string s,.string ⟨#[10]⟩] w fun e w'=>∃ A c,e=.returned (.slice A n c)/\Txs w' w'.heap.size A (Lib.splitB ⟨#[10]⟩ 0 (Lib.countB s ⟨#[10]⟩) s)/\Below w.heap.size w w':=by
 subst hn
 obtain ⟨_,m,hm⟩:=hm
 have hl:(Lib.splitB ⟨#[10]⟩ 0 (Lib.countB s ⟨#[10]⟩) s).length=Lib.countB s ⟨#[10]⟩+1:=Lib.splitB_all ⟨#[10]⟩ (by decide) 0 _ s rfl
 refine (Tryz.strings_Split s ⟨#[10]⟩ m w (by omega) hm (by decide)).mono ?_
 rintro e w' ⟨rfl,rfl⟩
 exact ⟨_,_,by rw [hl],split_txs s hs,(Below.refl _ _).alloc (Nat.le_refl _) _⟩
theorem bytes_ne {x y:ByteArray} (h:x≠y):(x.toList==y.toList)=false:=by
 rw [beq_eq_false_iff_ne,ByteArray.toList_eq,ByteArray.toList_eq]
 exact fun e=>h (ByteArray.ext (Array.toList_inj.1 e))
theorem differs_any (a b:ByteArray) (w:World) (ha:a.size<=4000000000) (hb:b.size<=4000000000) (hm:MaxL w) :
  Calls Tryz.prog 74 #[.string a,.string b] w (Ret w (.int .i64 (difL 0 a.data.toList b.data.toList))):=by
 by_cases h:a=b
 ·subst h
  have hb1:(a.toList==a.toList)=true:=by simp
  rw [difL_is,if_pos rfl]
  go_enter Tryz.func74,Tryz.ntmps74
  go_wp2
  go_ret
  exact ⟨rfl,Below.refl _ _⟩
 ·have hb1:=bytes_ne h
  rw [differs_is h]
  obtain ⟨n,hn⟩:∃ n,(Lib.splitB ⟨#[10]⟩ 0 (Lib.countB a ⟨#[10]⟩) a).length=n:=⟨_,rfl⟩
  obtain ⟨n2,hn2⟩:∃ n,(Lib.splitB ⟨#[10]⟩ 0 (Lib.countB b ⟨#[10]⟩) b).length=n:=⟨_,rfl⟩
  have HSA:=hd_ (fun w' h=>split_is a ha hn w' h)
  have HSB:=hd_ (fun w' h=>split_is b hb hn2 w' h)
  have HM:=hd_ hm
  generalize Lib.splitB ⟨#[10]⟩ 0 (Lib.countB a ⟨#[10]⟩) a=X at *
  generalize Lib.splitB ⟨#[10]⟩ 0 (Lib.countB b ⟨#[10]⟩) b=Y at *
  obtain ⟨R,hR⟩:∃ R,dL 0 X Y=R:=⟨_,rfl⟩
  have HR:=hd_ hR
  rw [hR]
  obtain ⟨N,hN⟩:∃ N,min n n2=N:=⟨_,rfl⟩
  clear hm h hR
  go_enter Tryz.func74,Tryz.ntmps74
  go_upto_region 4 with (first
   | (go_at_call 122;(fail_if_success have z:=T1);refine (HSA.out _ HM.out).mono ?_;rintro e w1 ⟨A1,c1,rfl,ht1,hB1⟩;have HX:=hd_ ht1;have HB:=hd_ hB1;have T1:=hd_ True.intro;clear ht1 hB1)
   | (go_at_call 122;refine (HSB.out _ (HM.out.past HB.out)).mono ?_;rintro e w2 ⟨A2,c2,rfl,ht2,hB2⟩;have HX:=hd_ (HX.out.past hB2);have HY:=hd_ ht2;have HB:=hd_ (HB.out.trans (hB2.mono HB.out.size));clear ht2 hB2))
  go_wp2
  go_loopw [7,20] (fun _ i wr=>∃ k:Nat,i=.int .i64 (k:Nat)/\k<=n/\k<=n2/\Hid (dL k (X.drop k) (Y.drop k)=R)/\Hid (Txs wr wr.heap.size A1 X)/\Hid (Txs wr wr.heap.size A2 Y)/\Hid (Below w.heap.size w wr)) (fun _ i _=>n-(intOf i).toNat)
  case atStart=>exact ⟨0,rfl,Nat.zero_le _,Nat.zero_le _,HR,HX,HY,HB⟩
  case round =>
   clear HX HY HB HR
   obtain ⟨k,rfl,hk1,hk2,HR,HX,HY,HB⟩:=hrel
   by_cases hlt:k<n/\k<n2
   ·obtain ⟨h1,h2⟩:=hlt
    have hmx:=HX.out.2.1
    unfold maxLen at hmx
    have d1:decide ((k:Int)<min (n:Int) (n2:Int))=true:=decide_eq_true (by omega)
    have h1x:k<X.length:=by omega
    have h2x:k<Y.length:=by omega
    have n1:decide (n<=k)=false:=decide_eq_false (by omega)
    have m1:decide (n2<=k)=false:=decide_eq_false (by omega)
    have n0:decide ((k:Int)<0)=false:=decide_eq_false (by omega)
    obtain ⟨b6,o6,u6,rfl,hb6,hu6,hc6⟩:=HX.out.1.one (k:=k) h1x
    obtain ⟨b7,o7,u7,rfl,hb7,hu7,hc7⟩:=HY.out.1.one (k:=k) h2x
    have hu:u6=.string X[k]:=by rw [List.getElem?_map,List.getElem?_eq_getElem h1x] at hu6;simpa using hu6.symm
    have hv:u7=.string Y[k]:=by rw [List.getElem?_map,List.getElem?_eq_getElem h2x] at hu7;simpa using hu7.symm
    subst hu hv
    obtain ⟨g1,g2⟩:=dL_step HR.out h1x h2x
    clear hu6 hu7
    by_cases hq:X[k]=Y[k]
    ·have e1:(X[k].toList==Y[k].toList)=true:=by rw [hq];simp
     have e2:(X[k].toList != Y[k].toList)=false:=by rw [bne,e1];rfl
     have HR2:=hd_ (g1 hq)
     clear g1 g2 hq HR
     generalize X[k]=x at *
     generalize Y[k]=y at *
     go_upto_region 7 with (fail)
     go_quiet (fail)
     go_wp2
     go_roundw
     case measure=>exact mea_
     case rel=>exact ⟨k+1,by first|go_num|rfl,by omega,by omega,HR2,HX,HY,hd_ (by first|exact HB.out|exact below_drewN HB.out _|exact below_drewN (below_drewN HB.out _) _)⟩
    ·have e1:=bytes_ne hq
     have e2:(X[k].toList != Y[k].toList)=true:=by rw [bne,e1];rfl
     have HR2:=hd_ (g2 hq)
     clear g1 g2 hq HR
     generalize X[k]=x at *
     generalize Y[k]=y at *
     go_upto_region 7 with (fail)
     go_quiet (fail)
     go_wp2
     go_ret
     rw [← HR2.out]
     exact ⟨rfl,by first|exact HB.out|exact below_drewN HB.out _|exact below_drewN (below_drewN HB.out _) _⟩
   ·have d1:decide ((k:Int)<min (n:Int) (n2:Int))=false:=decide_eq_false (by omega)
    have HR2:=hd_ (dL_end HR.out (by omega))
    have hmn:min (n:Int) (n2:Int)=(k:Nat):=by omega
    go_wp2
    go_ret
    rw [← HR2.out]
    exact ⟨by first|rfl|rw [hmn],HB.out⟩
theorem formT_size {p:List (List Nd)} {W:Int} (hT:∀ u ∈ p,treeF u=0) (h20:p.length<=20) (h:formE W p=0):(formT W p).size<=30000000:=by
 have key:∀ q:List (List Nd),(∀ u ∈ q,treeF u=0)->formE W q=0->(formT W q).size<=1500000*q.length:=by
  intro q
  induction q with
  | nil=>intro _ _;simp [formT]
  | cons u r ih =>
   intro hq he
   rw [formE] at he
   by_cases h1:oneQ u W≠0
   ·rw [if_pos h1] at he;exact absurd he h1
   ·rw [if_neg h1] at he
    have h0:oneQ u W=0:=Decidable.not_not.1 h1
    have ht:=hq u (by simp)
    have h2:=(oneX_is h0 (fun h9=>docL_doc ht h9 (by have:=(oneQ_zero h0).2.2 h9;omega))).small
    have h3:=ih (fun v hv=>hq v (by simp [hv])) he
    rw [formT,ByteArray.size_append,List.length_cons]
    omega
 have:=key p hT h
 omega
theorem check_bad {s:ByteArray} {W f:Int} {k:Nat} (h:fmtF s W=(f,k,.empty)) (hf:f≠0) (w:World) (hs:s.size<=maxLen) (hm:MaxL w) (hp:PowT w) :
  Calls Tryz.prog 41 #[.string s,.int .i64 W] w (Ret w (.tuple #[.int .i64 0,.int .i64 (k:Nat),.iface 24 (.int .i64 f)])):=by
 have hF:=fmt_any s W w hs hm hp
 unfold FmtTo at hF
 rw [h,← errV_pos hf] at hF
 have HF:=hd_ hF
 clear h hs hm hp hF
 go_enter Tryz.func41,Tryz.ntmps41
 go_wp2_with (go_at_call 20;refine HF.out.mono ?_;rintro e w1 ⟨rfl,hB1⟩;have HB1:=hd_ hB1;clear hB1)
 go_ret3
 exact ⟨rfl,HB1.out⟩
theorem check_ok {s T:ByteArray} {W:Int} (h:fmtF s W=(0,0,T)) (h60:s.size<=60000) (hT:T.size<=4000000000) (w:World) (hs:s.size<=maxLen) (hm:MaxL w) (hp:PowT w) :
  Calls Tryz.prog 41 #[.string s,.int .i64 W] w (Ret w (.tuple #[.int .i64 (difL 0 s.data.toList T.data.toList),.int .i64 (0:Nat),.nilIface])):=by
 have hF:=fmt_any s W w hs hm hp
 unfold FmtTo at hF
 rw [h,← errV_zero rfl] at hF
 have HF:=hd_ hF
 have HD:=hd_ (fun w' (hb:Below w.heap.size w w')=>differs_any s T w' (by omega) hT (hm.past hb))
 generalize difL 0 s.data.toList T.data.toList=D at *
 clear h hs hm hp hF
 go_enter Tryz.func41,Tryz.ntmps41
 go_wp2_with (first
  | (go_at_call 20;refine HF.out.mono ?_;rintro e w1 ⟨rfl,hB1⟩;have HB1:=hd_ hB1;clear hB1)
  | (go_at_call 74;refine (HD.out _ HB1.out).mono ?_;rintro e w2 ⟨rfl,hB2⟩;have HB2:=hd_ (HB1.out.trans (hB2.mono HB1.out.size));clear hB2))
 go_ret3
 exact ⟨rfl,HB2.out⟩
end Go.Proofs.YtddfdmopaeghnadGreatDoor
