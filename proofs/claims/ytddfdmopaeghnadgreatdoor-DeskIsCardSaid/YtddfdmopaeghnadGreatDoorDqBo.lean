/- A list of ways in memory, as it is read. With what it rests on. Conditions: as each theorem states them. -/
import Derived.Test.YtddfdmopaeghnadGreatDoorDqBe
set_option maxRecDepth 100000
set_option maxHeartbeats 16000000
namespace Go.Proofs.YtddfdmopaeghnadGreatDoor
variable {P Q:Prop}
section
open Go.RowKit
structure w3_ (w:World) (B:Nat) (A:Option Addr) (l:List (List Int)):Prop where
 sl:∃ vs:List Value,Sl w B 1 A l.length vs/\∀ (j:Nat) v,vs[j]?=some v->∃ Aj cj u,l[j]?=some u/\v=.slice Aj u.length cj/\u.length<=cj/\dD_ w B Aj u
 le:l.length<=maxLen
theorem w3_.one {w wr:World} {A:Option Addr} {l:List (List Int)} (h:w3_ w w.heap.size A l) (hB:Below w.heap.size w wr) {k:Nat} (hk:k<l.length) :
  ∃ b off Aj cj u,A=some ⟨b,off,none⟩/\l[k]?=some u/\wr.cell? ⟨b,off+k,none⟩=some (.slice Aj u.length cj)/\u.length<=cj/\dD_ wr wr.heap.size Aj u:=by
 obtain ⟨⟨vs,h1,h2⟩,h3⟩:=h;obtain ⟨b,off,v,e1,e2,e3,e4⟩:=h1.one hk;obtain ⟨Aj,cj,u,g1,rfl,g3,g4⟩:=h2 k v e3;exact ⟨b,off,Aj,cj,u,e1,g1,(hB.cell (p:=⟨b,off+k,none⟩) e2).trans e4,g3,g4.past hB⟩
end
section
def bK_ (m:Nat):D->List (List Int)->List (List Int)
 | .leaf _,B=>B
 | .un d a,B=>if d.op=7 then bK_ m a B else ((if a.flat.isSome=true then B.map (0::·) else [])++(bK_ m a B).map (1::·)).take m
 | .bin d a b,B=>if d.op=6 then bK_ m a (bK_ m b B) else ((bK_ m a B).map (0::·)++(bK_ m b B).map (1::·)).take m
def behind (A B:List (List Int)):List (List Int):=A.flatMap fun u=>B.map (u++·)
theorem ab1_ (B:List (List Int)):behind [[]] B=B:=by simp [behind]
theorem kH_ (c:Int) (A B:List (List Int)):behind (A.map (c::·)) B=(behind A B).map (c::·):=hM_ c A B
theorem rI_ (A A' B:List (List Int)):behind (A++A') B=behind A B++behind A' B:=by simp [behind]
theorem ab2_ (a b B:List (List Int)):behind (a.flatMap (fun u=>b.map (u++·))) B=behind a (behind b B):=q5_ a b B
theorem hP_ (m:Nat) (A B:List (List Int)):(A++B.take m).take m=(A++B).take m:=by
 rw [List.take_append,List.take_append,List.take_take]
 congr 2
 omega
theorem hQ_ (m:Nat) (g:List Int->List Int) (B:List (List Int)):(B.take m).map g=(B.map g).take m:=by rw [List.map_take]
theorem o1_ (m:Nat) (A B:List (List Int)):(A.take m++B).take m=(A++B).take m:=by
 rcases Nat.lt_or_ge m A.length with h|h
 ·rw [List.take_append_of_le_length (by rw [List.length_take];omega),List.take_append_of_le_length om_,List.take_take,Nat.min_self]
 ·rw [List.take_of_length_le h]
theorem rJ_ (m:Nat):∀ (A B:List (List Int)),(behind A (B.take m)).take m=(behind A B).take m
 | [],B=>rfl
 | u::r,B=>by
  have e:∀ C,behind (u::r) C=C.map (u++·)++behind r C:=fun C=>by simp [behind]
  rw [e,e,hQ_,o1_,← hP_ m (B.map (u++·)) (behind r (B.take m)),rJ_ m r B,hP_]
theorem hC_ (m:Nat):∀ (x:D) (B:List (List Int)),B.length<=m->(bK_ m x B).length<=m
 | .leaf _,B,h=>h
 | .un d a,B,h=>by
  simp only [bK_]
  split
  ·exact hC_ m a B h
  ·rw [List.length_take];omega
 | .bin d a b,B,h=>by
  simp only [bK_]
  split
  ·exact hC_ m a _ (hC_ m b B h)
  ·rw [List.length_take];omega
theorem hZ_ (m:Nat):∀ (x:D) (B:List (List Int)),B.length<=m->bK_ m x B=(behind x.ways B).take m
 | .leaf _,B,h=>by rw [bK_,D.ways,ab1_,List.take_of_length_le h]
 | .un d a,B,h=>by
  simp only [bK_,D.ways]
  split
  ·exact hZ_ m a B h
  ·rw [hZ_ m a B h,hQ_,hP_,rI_,kH_]
   congr 2
   split
   ·simp [behind]
   ·simp [behind]
 | .bin d a b,B,h=>by
  simp only [bK_,D.ways]
  split
  ·rw [hZ_ m a _ (hC_ m b B h),hZ_ m b B h,rJ_,ab2_]
  ·rw [hZ_ m a B h,hZ_ m b B h,hQ_,hQ_,o1_,hP_,rI_,kH_,kH_]
theorem ah6_ (x:D):bK_ 301 x [[]]=x.ways.take 301:=by
 rw [hZ_ 301 x [[]] si_]
 congr 1
 simp [behind]
end
section
open Go.RowKit
theorem abA_ {w w':World} {p:Addr} (h:w'.heap[p.block]?=w.heap[p.block]?):w'.cell? p=w.cell? p:=by simp only [World.cell?,h]
theorem mR_ {w:World} {p:Addr} {v:Value} (h:w.cell? p=some v):p.block<w.heap.size:=by
 rcases Nat.lt_or_ge p.block w.heap.size with h1|h1
 ·exact h1
 ·simp [World.cell?,Array.getElem?_eq_none h1] at h
def SlP (P:Nat->Prop) (w:World) (A:Option Addr) (xs:List Value):Prop:=0<xs.length->∃ b off,A=some ⟨b,off,none⟩/\P b/\∀ (j:Nat) u,xs[j]?=some u->w.cell? ⟨b,off+j,none⟩=some u
section
variable {P Q:Nat->Prop} {w w':World} {A:Option Addr} {xs:List Value}
theorem SlP.keep (h:SlP P w A xs) (hk:∀ b,P b->w'.heap[b]?=w.heap[b]?):SlP P w' A xs:=fun hn=>by
 obtain ⟨b,off,e,hb,hc⟩:=h hn;exact ⟨b,off,e,hb,fun j u hu=>(abA_ (p:=⟨b,off+j,none⟩) (hk b hb)).trans (hc j u hu)⟩
theorem SlP.mono (h:SlP P w A xs) (hq:∀ b,P b->Q b):SlP Q w A xs:=fun hn=>by
 obtain ⟨b,off,e,hb,hc⟩:=h hn;exact ⟨b,off,e,hq b hb,hc⟩
theorem SlP.bound (h:SlP P w A xs):SlP (fun b=>P b/\b<w.heap.size) w A xs:=fun hn=>by
 obtain ⟨b,off,e,hb,hc⟩:=h hn;have:=mR_ (hc 0 xs[0] (List.getElem?_eq_getElem hn));exact ⟨b,off,e,⟨hb,this⟩,hc⟩
theorem SlP.sl (h:SlP P w A xs):Sl w w.heap.size 1 A xs.length xs:=⟨by simp,fun hn=>by
 obtain ⟨b,off,e,⟨_,hb⟩,hc⟩:=h.bound hn;exact ⟨b,off,e,hb,hc⟩⟩
theorem SlP.of_own {base n:Nat} {e:TypeId} {c:Nat} (h:w.ownsRow base e 1 (.slice A n c) n xs):SlP (fun b=>base<=b) w A xs:=fun hn=>by
 have hl:=h.1;have hs:=Sl.of_own h;obtain ⟨b,off,e1,hb,hc⟩:=hs.2 om_;obtain ⟨g,cap,hv,hg,_⟩:=h.form om_;have hA:A=some ⟨g,0,none⟩:=by injection hv
 rw [hA] at e1
 cases e1
 exact ⟨_,_,hA,hg,hc⟩
theorem SlP.take (h:SlP P w A xs) (m:Nat):SlP P w A (xs.take m):=fun hn=>by
 rw [List.length_take] at hn;obtain ⟨b,off,e,hb,hc⟩:=h om_;refine ⟨b,off,e,hb,fun j u hu=>hc j u ?_⟩;rw [List.getElem?_take] at hu
 split at hu
 ·exact hu
 ·cases hu
end
def mL_ (P:Nat->Prop) (w:World) (v:Value) (u:List Int):Prop:=∃ A c,v=.slice A u.length c/\u.length<=c/\SlP P w A (u.map (.int .i64))
def dR_ (P:Nat->Prop) (w:World) (A:Option Addr) (l:List (List Int)):Prop:=∃ vs:List Value,vs.length=l.length/\SlP P w A vs/\∀ (j:Nat) v u,vs[j]?=some v->l[j]?=some u->mL_ P w v u
section
variable {P Q:Nat->Prop} {w w':World} {A:Option Addr} {l:List (List Int)}
theorem mL_.keep {v:Value} {u:List Int} (h:mL_ P w v u) (hk:∀ b,P b->w'.heap[b]?=w.heap[b]?):mL_ P w' v u:=by
 obtain ⟨A,c,h1,h2,h3⟩:=h;exact ⟨A,c,h1,h2,h3.keep hk⟩
theorem mL_.mono {v:Value} {u:List Int} (h:mL_ P w v u) (hq:∀ b,P b->Q b):mL_ Q w v u:=by
 obtain ⟨A,c,h1,h2,h3⟩:=h;exact ⟨A,c,h1,h2,h3.mono hq⟩
theorem dR_.keep (h:dR_ P w A l) (hk:∀ b,P b->w'.heap[b]?=w.heap[b]?):dR_ P w' A l:=by
 obtain ⟨vs,h1,h2,h3⟩:=h;exact ⟨vs,h1,h2.keep hk,fun j v u hv hu=>(h3 j v u hv hu).keep hk⟩
theorem dR_.mono (h:dR_ P w A l) (hq:∀ b,P b->Q b):dR_ Q w A l:=by
 obtain ⟨vs,h1,h2,h3⟩:=h;exact ⟨vs,h1,h2.mono hq,fun j v u hv hu=>(h3 j v u hv hu).mono hq⟩
theorem dR_.bound (h:dR_ P w A l):dR_ (fun b=>P b/\b<w.heap.size) w A l:=by
 obtain ⟨vs,h1,h2,h3⟩:=h;refine ⟨vs,h1,h2.bound,fun j v u hv hu=>?_⟩;obtain ⟨A',c,g1,g2,g3⟩:=h3 j v u hv hu;exact ⟨A',c,g1,g2,g3.bound⟩
theorem dR_.take (h:dR_ P w A l) (m:Nat):dR_ P w A (l.take m):=by
 obtain ⟨vs,h1,h2,h3⟩:=h;refine ⟨vs.take m,by rw [List.length_take,List.length_take,h1],h2.take m,fun j v u hv hu=>?_⟩;rw [List.getElem?_take] at hv hu
 split at hv
 ·rename_i hj;rw [if_pos hj] at hu;exact h3 j v u hv hu
 ·cases hv
theorem dR_.one (h:dR_ P w A l) {k:Nat} (hk:k<l.length):∃ b off Aj cj,A=some ⟨b,off,none⟩/\w.cell? ⟨b,off+k,none⟩=some (.slice Aj l[k].length cj)/\l[k].length<=cj/\SlP P w Aj (l[k].map (.int .i64)):=by
 obtain ⟨vs,h1,h2,h3⟩:=h;obtain ⟨b,off,e,hb,hc⟩:=h2 om_;have hkv:k<vs.length:=by omega
 obtain ⟨Aj,cj,g1,g2,g3⟩:=h3 k vs[k] l[k] (List.getElem?_eq_getElem hkv) (List.getElem?_eq_getElem hk);exact ⟨b,off,Aj,cj,e,by rw [← g1];exact hc k _ (List.getElem?_eq_getElem hkv),g2,g3⟩
theorem dR_.rowsI (h:dR_ P w A l) (hm:l.length<=maxLen) (hu:∀ u ∈ l,u.length<=maxLen):w3_ w w.heap.size A l:=by
 obtain ⟨vs,h1,h2,h3⟩:=h;refine ⟨⟨vs,by rw [← h1];exact h2.sl,fun j v hv=>?_⟩,hm⟩;have hj:j<l.length:=by have:=(List.getElem?_eq_some_iff.1 hv).1;omega
 obtain ⟨A',c,g1,g2,g3⟩:=h3 j v l[j] hv (List.getElem?_eq_getElem hj);refine ⟨A',c,l[j],List.getElem?_eq_getElem hj,g1,g2, ?_,hu _ (List.getElem_mem hj)⟩;have:=g3.sl;rw [List.length_map] at this;exact this
end
def gC_ (w:World) (B:Nat) (ov:Value) (done:List (List Int)):Prop:=∃ vs:List Value,w.ownsRow B 73 1 ov done.length vs/\vs.length=done.length/\∀ (j:Nat) v u,vs[j]?=some v->done[j]?=some u->w.ownsRow B 3 1 v u.length (u.map (.int .i64))
theorem gC_.nil (w:World) (B:Nat):gC_ w B (.slice none 0 0) []:=⟨[],World.ownsRow_nil _ _ _ _,rfl,fun j v u h=>by cases h⟩
theorem gC_.past {w w':World} {B:Nat} {ov:Value} {done:List (List Int)} (h:gC_ w B ov done) (hb:Below w.heap.size w w'):gC_ w' B ov done:=by
 obtain ⟨vs,h1,h2,h3⟩:=h;exact ⟨vs,aV_ h1 hb,h2,fun j v u hv hu=>aV_ (h3 j v u hv hu) hb⟩
theorem nH_ {w:World} {base:Nat} {e:TypeId} {size n:Nat} {v:Value} {xs:List Value} (h:w.ownsRow base e size v n xs):∃ A c,v=.slice A n c:=by
 rcases h.2 with ⟨rfl,rfl⟩|⟨g,cap,cur,rfl,_⟩
 ·exact ⟨_,_,rfl⟩
 ·exact ⟨_,_,rfl⟩
theorem gC_.form {w:World} {B:Nat} {ov:Value} {done:List (List Int)} (h:gC_ w B ov done):∃ A c,ov=.slice A done.length c/\done.length<=c/\dR_ (fun b=>B<=b) w A done:=by
 obtain ⟨vs,h1,h2,h3⟩:=h;obtain ⟨A,c,rfl⟩:=nH_ h1;refine ⟨A,c,rfl,tJ_ h1,vs,h2,SlP.of_own h1,fun j v u hv hu=>?_⟩;obtain ⟨A',c',rfl⟩:=nH_ (h3 j v u hv hu);exact ⟨A',c',rfl,tJ_ (h3 j _ u hv hu),SlP.of_own (h3 j _ u hv hu)⟩
theorem gC_.app {w w':World} {B:Nat} {ov ov' xv:Value} {done:List (List Int)} {u:List Int} {vs:List Value} (h1:w.ownsRow B 73 1 ov done.length vs) (h2:vs.length=done.length)
  (h3:∀ (j:Nat) v u,vs[j]?=some v->done[j]?=some u->w.ownsRow B 3 1 v u.length (u.map (.int .i64))) (hx:w.ownsRow B 3 1 xv u.length (u.map (.int .i64)))
  (hr:w'.ownsRow B 73 1 ov' (done.length+1) (vs++[xv])) (hg:w.grownBy w' ov.ownBlock):gC_ w' B ov' (done++[u]):=by
 refine ⟨vs++[xv],by rw [List.length_append];exact hr,by rw [List.length_append,List.length_append,h2];rfl,fun j v z hv hz=>?_⟩
 by_cases hj:j<vs.length
 ·rw [List.getElem?_append_left hj] at hv;rw [List.getElem?_append_left (by rw [← h2];exact hj)] at hz;have k:=h3 j v z hv hz;exact k.kept hg (bP_ k h1 de_)
 ·rw [List.getElem?_append_right om_] at hv;rw [List.getElem?_append_right (by rw [← h2];omega),← h2] at hz
  cases hq:j-vs.length with
  | zero =>
   rw [hq] at hv hz;simp at hv hz;subst hv hz;exact hx.kept hg (bP_ hx h1 de_)
  | succ q=>rw [hq] at hv;simp at hv
theorem fO_ (m k:Nat):∀ (x:D) (B:List (List Int)),(∀ u ∈ B,u.length<=k)->∀ u ∈ bK_ m x B,u.length<=x.sz+k
 | .leaf _,B,h=>fun u hu=>by have:=h u hu;simp only [D.sz];omega
 | .un d a,B,h=>by
  intro u hu;have ha:=fO_ m k a B h;simp only [bK_] at hu;simp only [D.sz]
  split at hu
  ·have:=ha u hu;omega
  ·have hu:=List.mem_of_mem_take hu;rw [List.mem_append] at hu
   rcases hu with hu|hu
   ·split at hu
    ·obtain ⟨z,hz,rfl⟩:=List.mem_map.1 hu;have:=h z hz;simp only [List.length_cons];omega
    ·cases hu
   ·obtain ⟨z,hz,rfl⟩:=List.mem_map.1 hu;have:=ha z hz;simp only [List.length_cons];omega
 | .bin d a b,B,h=>by
  intro u hu;have hb:=fO_ m k b B h;simp only [bK_] at hu;simp only [D.sz]
  split at hu
  ·have:=fO_ m (b.sz+k) a (bK_ m b B) hb u hu;omega
  ·have ha:=fO_ m k a B h;have hu:=List.mem_of_mem_take hu;rw [List.mem_append] at hu
   rcases hu with hu|hu
   ·obtain ⟨z,hz,rfl⟩:=List.mem_map.1 hu;have:=ha z hz;simp only [List.length_cons];omega
   ·obtain ⟨z,hz,rfl⟩:=List.mem_map.1 hu;have:=hb z hz;simp only [List.length_cons];omega
end
section
def eoF (l:List Nd):Nat->Nat->Option Nat
 | 0,_=>none
 | f+1,i =>
  if l.length<=i then none
  else if parts (l.getD i ⟨0,.empty,0⟩).op=2 then
   match eoF l f (i+1) with
   | none=>none
   | some c=>eoF l f c
  else if parts (l.getD i ⟨0,.empty,0⟩).op=1 then eoF l f (i+1)
  else some (i+1)
theorem asN_ {l:List Nd}:∀ {f i c:Nat},eoF l f i=some c->i<c/\c<=l.length:=by
 intro f
 induction f with
 | zero=>intro i c h;cases h
 | succ f ih =>
  intro i c h;simp only [eoF] at h
  split at h
  ·cases h
  ·split at h
   ·split at h
    ·cases h
    ·rename_i c' hc;have h1:=ih hc;have h2:=ih h;omega
   ·split at h
    ·have:=ih h;omega
    ·cases h;omega
theorem asO_ {l:List Nd}:∀ {x:D} {f i:Nat} {r:List Nd},x.ok->l.drop i=x.enc++r->l.length<=i+f->eoF l f i=some (i+x.sz):=by
 intro x
 induction x with
 | leaf d =>
  intro f i r hx hd hf;have hlen:(l.drop i).length=1+r.length:=by rw [hd];simp [D.enc];omega
  rw [List.length_drop] at hlen;have hi:i<l.length:=by omega
  have hget:l.getD i ⟨0,.empty,0⟩=d:=by
   have h1:=List.drop_eq_getElem_cons hi;rw [hd] at h1;simp only [D.enc,List.cons_append,List.cons.injEq] at h1;simp [hi,h1.1]
  match f with
  | 0=>omega
  | f+1 =>
   simp only [D.ok] at hx;simp only [eoF,hget,hx,D.sz];rw [if_neg om_];rfl
 | un d a ih =>
  intro f i r hx hd hf;have hlen:(l.drop i).length=1+a.sz+r.length:=by rw [hd];simp [D.enc,D.len_enc];omega
  rw [List.length_drop] at hlen;have hi:i<l.length:=by omega
  have h1:=List.drop_eq_getElem_cons hi;rw [hd] at h1;simp only [D.enc,List.cons_append,List.cons.injEq] at h1;have hget:l.getD i ⟨0,.empty,0⟩=d:=by simp [hi,h1.1]
  match f with
  | 0=>omega
  | f+1 =>
   obtain ⟨hx1,hx2⟩:=hx;simp only [eoF,hget,hx1,D.sz];rw [if_neg om_,if_neg de_,if_pos trivial,ih hx2 h1.2.symm om_]
   congr 1;omega
 | bin d a b ia ib =>
  intro f i r hx hd hf;have hlen:(l.drop i).length=1+a.sz+b.sz+r.length:=by rw [hd];simp [D.enc,D.len_enc];omega
  rw [List.length_drop] at hlen;have hi:i<l.length:=by omega
  have h1:=List.drop_eq_getElem_cons hi;rw [hd] at h1;simp only [D.enc,List.cons_append,List.cons.injEq,List.append_assoc] at h1;have hget:l.getD i ⟨0,.empty,0⟩=d:=by simp [hi,h1.1]
  match f with
  | 0=>omega
  | f+1 =>
   obtain ⟨hx1,hx2,hx3⟩:=hx;have hd2:l.drop (i+1+a.sz)=b.enc++r:=by
    rw [← List.drop_drop,← h1.2,List.drop_append,List.drop_eq_nil_of_le (by rw [D.len_enc];omega),D.len_enc];simp
   simp only [eoF,hget,hx1,D.sz];rw [if_neg om_,if_pos trivial,ia hx2 h1.2.symm om_];simp only;rw [ib hx3 hd2 om_]
   congr 1;omega
def x5_ (l:List Nd) (i:Nat):Int:=match eoF l (l.length-i) i with|some c=>c|none=>-1
theorem Doc.endV_ {l:List Nd} {x:D} (h:Doc l x) {i:Nat} (hi:i<l.length):x5_ l i=bL_ l i:=by
 obtain ⟨r,h1,h2⟩:=h.at_ hi;rw [x5_,asO_ h2 h1 om_];rfl
end
section
open Go.RowKit
theorem y7_ (op:Int) (w:World):Calls Tryz.prog 222 #[.int .i64 op] w fun e w'=>e=.returned (.int .i64 (parts op))/\w=w':=by
 go_enter Tryz.func222,Tryz.ntmps222;go_wp2
 all_goals go_ret
 all_goals simp_all [parts]
def opV:Option Nat->Int|some c=>c|none=>-1
def yB_ (l:List Nd) (f:Nat):Nat->Option Nat->Option Nat
 | 0,v=>v
 | _+1,none=>none
 | m+1,some c=>yB_ l f m (eoF l f c)
theorem ao4_ {l:List Nd} {f i p:Nat} {op n:Int} {t:ByteArray} (hi:i<l.length) (hd:l[i]=Nd.mk op t n) (hp:parts op=p):eoF l (f+1) i=yB_ l f p (some (i+1)):=by
 have hg:l.getD i ⟨0,.empty,0⟩=Nd.mk op t n:=by simp [hi,hd]
 have hb:=j1_ op;simp only [eoF,hg,hp];rw [if_neg om_]
 match p,hp with
 | 0,_=>rw [if_neg de_,if_neg de_];rfl
 | 1,_=>rw [if_neg de_,if_pos de_];rfl
 | 2,_ =>
  rw [if_pos de_];simp only [yB_]
  cases eoF l f (i+1) <;> rfl
 | p+3,_=>omega
theorem aeY_ (l:List Nd) (A:Option Addr) (c:Nat) (w:World) (hl:Nds w w.heap.size A l):∀ f i:Nat,l.length<=i+f->i<=l.length ->
  Calls Tryz.prog 194 #[.slice A l.length c,.int .i64 i] w fun e w'=>e=.returned (.int .i64 (opV (eoF l f i)))/\w=w':=by
 have hm:=hl.2.1;unfold maxLen at hm;have HN:=hd_ hl;clear hl;have out:∀ f i:Nat,l.length<=i->i<=l.length->Calls Tryz.prog 194 #[.slice A l.length c,.int .i64 i] w fun e w'=>e=.returned (.int .i64 (opV (eoF l f i)))/\w=w':=by
  intro f i h1 h2;have he:opV (eoF l f i)=-1:=by
   cases f with
   | zero=>rfl
   | succ f=>simp [eoF,h1,opV]
  rw [he];go_enter Tryz.func194,Tryz.ntmps194;go_wp2;go_ret;exact ⟨rfl,rfl⟩
 intro f
 induction f with
 | zero=>intro i h1 h2;exact out 0 i om_ h2
 | succ f ih =>
  intro i h1 h2
  by_cases hi:l.length<=i
  ·exact out _ i hi h2
  ·clear out;have hi':i<l.length:=by omega
   obtain ⟨b,off,op,t,n,rfl,hb,hd,hts,d1,d2,d3⟩:=HN.out.node (Below.refl _ _) hi';obtain ⟨p,hp⟩:∃ p:Nat,parts op=p:=⟨(parts op).toNat,by have:=j1_ op;omega⟩;have hpb:=j1_ op;have HR:=hd_ (ao4_ (f:=f) hi' hd hp);rw [HR.out];have HI:=hd_ ih;clear ih hd;go_enter Tryz.func194,Tryz.ntmps194;go_wp2_with (go_at_call 222;refine (y7_ _ _).mono ?_;rintro e w1 ⟨rfl,rfl⟩;rw [hp])
   go_loop [1,5] (fun v n=>∃ (m:Nat) (o:Option Nat),v=.int .i64 (opV o)/\n=.int .i64 m/\m<=2/\(∀ k,o=some k->i<k/\k<=l.length)/\yB_ l f p (some (i+1))=yB_ l f m o) (fun _ n=>(intOf n).toNat)
   case atStart=>exact ⟨p,some (i+1),by simp [opV],rfl,by omega,fun k hk=>by cases hk;omega,rfl⟩
   case round =>
    obtain ⟨m,o,rfl,rfl,hm2,hk,hr⟩:=hrel;have HK:=hd_ hr;clear hr
    match m,o,HK with
    | 0,o,HK =>
     go_wp2;go_ret;exact ⟨by rw [HK.out];rfl,rfl⟩
    | m+1,none,HK =>
     simp only [opV];go_wp2;go_ret;exact ⟨by rw [HK.out];rfl,rfl⟩
    | m+1,some k,HK =>
     have hkb:=hk k rfl;simp only [opV];have HC:=hd_ (HI.out k om_ hkb.2);go_wp2_with (go_at_call 194;refine HC.out.mono ?_;rintro e w1 ⟨rfl,rfl⟩)
     go_round
     case rel=>exact ⟨m,eoF l f k,rfl,by go_num,by omega,fun j hj=>by have:=asN_ hj;omega,by rw [HK.out];rfl⟩
     case measure=>simp [intOf]
theorem Nds.drew {w:World} {A:Option Addr} {l:List Nd} (h:Nds w w.heap.size A l):Nds w.drew w.drew.heap.size A l:=h
theorem ajU_ (l:List Nd) (i:Nat):opV (eoF l (l.length-i) i)=x5_ l i:=by
 unfold x5_;cases eoF l (l.length-i) i <;> rfl
theorem ao3_ (l:List Nd) (A:Option Addr) (c:Nat) (w:World) (hl:Nds w w.heap.size A l) {i:Nat} {v:Int} (hv:(i:Int)=v) (hi:i<=l.length) :
  Calls Tryz.prog 194 #[.slice A l.length c,.int .i64 v] w fun e w'=>e=.returned (.int .i64 (x5_ l i))/\w=w':=by
 have h:=aeY_ l A c w hl (l.length-i) i om_ hi;rw [ajU_,hv] at h;exact h
theorem uC_ {l:List Nd} {x:D} (hd:Doc l x) (A:Option Addr) (c:Nat) (w:World) (hl:Nds w w.heap.size A l) {i:Nat} {v:Int} (hv:v=i) (hi:i<l.length) :
  Calls Tryz.prog 194 #[.slice A l.length c,.int .i64 v] w fun e w'=>e=.returned (.int .i64 (bL_ l i:Nat))/\w=w':=by
 have h:=ao3_ l A c w hl hv.symm om_;rw [hd.endV_ hi] at h;exact h
theorem Doc.line6 {l:List Nd} {x:D} (hd:Doc l x) {i:Nat} (hi:i<l.length) {n:Int} {t:ByteArray} (hnd:l[i]=Nd.mk 6 t n) :
  ∃ q:Nat,i+1<l.length/\q<l.length/\i+1<q/\bL_ l (i+1)=q/\aP_ l i=wB_ (aP_ l (i+1)) (aP_ l q)/\(aP_ l (i+1)).1.size+(aP_ l q).1.size<=maxLen:=by
 rcases hd.parts_ hi with ⟨h1,_⟩|⟨h1,_⟩|⟨h1,h2,h3,h4⟩
 ·rw [hnd] at h1;simp [parts] at h1
 ·rw [hnd] at h1;simp [parts] at h1
 ·refine ⟨_,h2,h3,by have:=(a7_ l (i+1)).sz_pos;omega,rfl, ?_, ?_⟩
  ·rw [aP_,h4,hnd];simp only [D.flat,aP_,if_true]
   cases (a7_ l (i+1)).flat <;> cases (a7_ l (i+1+(a7_ l (i+1)).sz)).flat <;> rfl
  ·have f1:=hd.flat_len h2;have f2:=hd.flat_len h3;have f3:=(hd.end_le h2).2;have f4:=(hd.end_le h3).2;have f5:=hd.len;unfold bL_ at f3 f4;unfold maxLen;omega
theorem Doc.line789 {l:List Nd} {x:D} (hd:Doc l x) {i:Nat} (hi:i<l.length) {op n:Int} {t:ByteArray} (hnd:l[i]=Nd.mk op t n) (h:op=7∨op=8∨op=9) :
  i+1<l.length/\aP_ l i=aP_ l (i+1):=by
 rcases hd.parts_ hi with ⟨h1,_⟩|⟨h1,h2,h3⟩|⟨h1,h2,_,h3⟩
 ·rw [hnd] at h1;rcases h with rfl|rfl|rfl <;> simp [parts] at h1
 ·exact ⟨h2,by rw [aP_,h3];rfl⟩
 ·rw [hnd] at h1 h3
  rcases h with rfl|rfl|rfl
  ·simp [parts] at h1
  ·simp [parts] at h1
  ·exact ⟨h2,by rw [aP_,h3];simp [D.flat,aP_]⟩
theorem Doc.line0 {l:List Nd} {x:D} (hd:Doc l x) {i:Nat} (hi:i<l.length) {op n:Int} {t:ByteArray} (hnd:l[i]=Nd.mk op t n) (h:parts op=0) :
  aP_ l i=g2_ (D.flat (.leaf ⟨op,t,n⟩)):=by
 rcases hd.parts_ hi with ⟨h1,h2⟩|⟨h1,_⟩|⟨h1,_⟩
 ·rw [aP_,h2,hnd]
 ·rw [hnd,h] at h1;simp at h1
 ·rw [hnd,h] at h1;simp at h1
theorem dC13 (h:P:=by
 obtain ⟨hi1,hle⟩:=HD.out.line789 hi hnd om_;clear hnd;have HC1:=hd_ (fun w'=>HI.out (i+1) ((i:Int)+1) w');rw [hle];clear hle;have k1:IntKind.i64.wrap ((i:Int)+1)=(i:Int)+1:=IntWalk.i64_in _ om_;go_enter Tryz.func195,Tryz.ntmps195;go_wp2_with (go_at_call 195;(fail_if_success have hz:=hB1);refine (HC1.out _ (by repeat (first|with_reducible exact HN.out|with_reducible apply Nds.drew)) om_ om_ om_).mono ?_;rintro e w1 ⟨rfl,hB1⟩);go_ret2;exact ⟨rfl,hB1⟩):P:=h
theorem rX_ {l:List Nd} {x:D} (hd:Doc l x) (A:Option Addr) (c:Nat):∀ (f i:Nat) (v:Int) (w:World),Nds w w.heap.size A l->v=i->i<l.length->l.length<=i+f ->
  Calls Tryz.prog 195 #[.slice A l.length c,.int .i64 v] w (Ret w (.tuple #[.string (aP_ l i).1,.bool (aP_ l i).2])):=by
 have h400:=hd.len;have HD:=hd_ hd;clear hd;intro f
 induction f with
 | zero=>intro i v w hl hv hi hf;omega
 | succ f ih =>
  intro i v w hl hv hi hf;subst hv;have HI:=hd_ ih;clear ih;obtain ⟨b,off,op,t,n,rfl,hb,hnd,hts,d1,d2,d3⟩:=hl.node (Below.refl _ _) hi;have HN:=hd_ hl;clear hl
  rcases HD.out.ops hi hnd with rfl|rfl|rfl|rfl|rfl|rfl|rfl|rfl|rfl
  case inr.inr.inr.inr.inr.inl =>
   obtain ⟨q,hi1,hq,hiq,hqe,hle,hlen⟩:=HD.out.line6 hi hnd;clear hnd;obtain ⟨s1,b1,e1⟩:∃ s b,aP_ l (i+1)=(s,b):=⟨_,_,rfl⟩;obtain ⟨s2,b2,e2⟩:∃ s b,aP_ l q=(s,b):=⟨_,_,rfl⟩;have hc1:=fun w'=>HI.out (i+1) ((i:Int)+1) w'
   have hc2:=fun w'=>HI.out q (q:Int) w'
   rw [e1] at hc1 hle hlen;rw [e2] at hc2 hle hlen;have hce:=fun w' hw=>uC_ HD.out (some ⟨b,off,none⟩) c w' hw (i:=i+1) (v:=(i:Int)+1) om_ hi1
   rw [hqe] at hce;unfold maxLen at hlen;simp only at hlen;have HC1:=hd_ hc1;clear hc1;have HC2:=hd_ hc2;clear hc2;have HCE:=hd_ hce;clear hce;have HL:=hd_ hle;clear hle;rw [HL.out];clear e1 e2 hqe;have k1:IntKind.i64.wrap ((i:Int)+1)=(i:Int)+1:=IntWalk.i64_in _ om_
   cases b1 <;> cases b2
   all_goals
    go_enter Tryz.func195,Tryz.ntmps195;go_wp2_with (first
     | (go_at_call 195;(fail_if_success have hz:=hB1);refine (HC1.out _ (by repeat (first|with_reducible exact HN.out|with_reducible apply Nds.drew)) om_ om_ om_).mono ?_;rintro e w1 ⟨rfl,hB1⟩)
     | (go_at_call 194;refine (HCE.out _ (by repeat (first|with_reducible exact HN.out.past hB1|with_reducible apply Nds.drew))).mono ?_;rintro e w2 ⟨rfl,rfl⟩)
     | (go_at_call 195;refine (HC2.out _ (by repeat (first|with_reducible exact HN.out.past hB1|with_reducible apply Nds.drew)) (by trivial) om_ om_).mono ?_;rintro e w3 ⟨rfl,hB3⟩))
    go_ret2;exact ⟨rfl,hB1.trans (hB3.mono hB1.size)⟩
  case inr.inr.inr.inr.inr.inr.inl =>
   exact dC13
  case inr.inr.inr.inr.inr.inr.inr.inl =>
   exact dC13
  case inr.inr.inr.inr.inr.inr.inr.inr =>
   exact dC13
  all_goals
   rw [HD.out.line0 hi hnd de_];clear hnd;go_enter Tryz.func195,Tryz.ntmps195;go_wp2;go_ret2;exact ⟨rfl,aF_⟩
theorem af8_:(Tryz.prog.info? 3).map (fun i=>(i.zero,i.size,i.bytes))=some (some (.int .i64 0),1,8):=by kernel_rfl
theorem acR_:(Tryz.prog.info? 73).map (fun i=>(i.zero,i.size,i.bytes))=some (some (.slice none 0 0),1,24):=by kernel_rfl
def anG_ (base:Nat) (ov:Value) (res:List (List Int)) (w:World) (e:Ending) (w':World):Prop :=
 ∃ ov',e=.returned ov'/\gC_ w' base ov' res/\Below base w w'/\w.heap.size<=w'.heap.size/\∀ b,b<w.heap.size->ov.ownBlock≠some b->w'.heap[b]?=w.heap[b]?
theorem ab3_ {B:Nat} {w w':World} {v:Value} {base:Nat} {e:TypeId} {size n:Nat} {xs:List Value} (hown:w.ownsRow base e size v n xs) (hg:w.grownBy w' v.ownBlock) (hb:B<=base) (hw:base<=w.heap.size):Below B w w' :=
 bA_ (Below.refl _ _) hown hg (Nat.le_trans hb hw) hb
theorem gZ_ (base:Nat) (c:Int) (l:List (List Int)) (R:Nat->Prop) (A:Option Addr) (n cl:Nat) (hn:l.length=n) (ov:Value) (done:List (List Int)) (w:World) (hR:dR_ R w A l) (hRb:∀ b,R b->ov.ownBlock≠some b) (ho:gC_ w base ov done) (hbase:base<=w.heap.size)
  (hlen:done.length+l.length<=1000) (hrow:∀ u ∈ l,u.length<=1000000) :
  Calls Tryz.prog 196 #[ov,.int .i64 c,.slice A n cl] w (anG_ base ov (done++l.map (c::·)) w):=by
 subst hn;obtain ⟨iI,hiI,hzI,hzI1,hzI2⟩:=info_parts af8_;obtain ⟨iS,hiS,hzS,hzS1,hzS2⟩:=info_parts acR_;have HR:=hd_ hR.bound;have HRB:=hd_ hRb;have HO:=hd_ ho;have HRW:=hd_ hrow;clear hR hRb ho hrow;go_enter Tryz.func196,Tryz.ntmps196;go_wp2_with fail;go_loopw [0,7] (fun o k wr=>∃ (m:Nat) (ovk:Value),m<=l.length/\k=.int .i64 m/\o=ovk/\gC_ wr base ovk (done++(l.take m).map (c::·))/\Below base w wr/\w.heap.size<=wr.heap.size/\(∀ b,b<w.heap.size->ov.ownBlock≠some b->wr.heap[b]?=w.heap[b]?)/\(∀ g,ovk.ownBlock=some g->ov.ownBlock=some g∨w.heap.size<=g)) (fun _ k _=>l.length-(intOf k).toNat)
 case atStart=>exact ⟨0,ov,by omega,rfl,rfl,by simpa using HO.out,Below.refl _ _,Nat.le_refl _,fun _ _ _=>rfl,fun g h=>.inl h⟩
 case round =>
  rename_i wr;obtain ⟨m,ovk,hm,rfl,rfl,hok,hbk,hsk,hkk,hgk⟩:=hrel;have HOK:=hd_ hok;have HBK:=hd_ hbk;have HKK:=hd_ hkk;have HGK:=hd_ hgk;clear hok hbk hkk hgk
  by_cases hlt:m<l.length
  ·have hRr:dR_ _ wr A l:=HR.out.keep (fun b hb=>HKK.out b hb.2 (HRB.out b hb.1));obtain ⟨b,off,Aj,cj,rfl,hcell,hcj,hrj⟩:=hRr.one hlt;have hzu:=HRW.out _ (List.getElem_mem hlt);have hbw:b<wr.heap.size:=mR_ hcell;have hcell2:(wr.alloc (.cells #[.int .i64 c] 3)).cell? ⟨b,off+m,none⟩=some (.slice Aj l[m].length cj):=(((Below.refl wr.heap.size wr).alloc (Nat.le_refl _) _).cell (p:=⟨b,off+m,none⟩) hbw).trans hcell;have hsj:=hrj.sl;rw [List.length_map] at hsj;have HSJ:=hd_ hsj;have HTK:Hid (done++(l.take (m+1)).map (c::·)=(done++(l.take m).map (c::·))++[c::l[m]]):=hd_ (by rw [List.take_succ_eq_append_getElem hlt,List.map_append,List.append_assoc];rfl);have hDl:(done++(l.take m).map (c::·)).length=done.length+m:=by rw [List.length_append,List.length_map,List.length_take];omega
   generalize l[m]=u at *;generalize done++(l.take m).map (c::·)=D at *;clear hRr hrj hsj;obtain ⟨vs,g1,g2,g3⟩:=HOK.out;have G1:=hd_ g1;have G3:=hd_ g3;clear g1 g3;have hOL:(wr.alloc (.cells #[.int .i64 c] 3)).ownsRow wr.heap.size 3 1 (.slice (some ⟨wr.heap.size,0,none⟩) 1 1) 1 [.int .i64 c]:=World.ownsRow_lit (base:=wr.heap.size) (e:=3) (size:=1) wr #[.int .i64 c] 1 (Nat.le_refl _) (by simp [maxLen]) rfl;have HOL:=hd_ hOL;have hbs:base<=wr.heap.size:=by omega
   clear hOL;go_wp2_with (first
    | (at_builtin;(fail_if_success have hz:=HX2);refine b4_ _ rfl (.tmp 17) (.tmp 21) _ rfl wr.heap.size 3 iI (.int .i64 0) 1 8 Tryz.underlying73 hiI hzI hzI1 hzI2 rfl de_ _ 1 _ rfl HOL.out _ _ u.length _ _ rfl (HSJ.out.alloc _) (aoC_ u) (by simp only [maxLen];omega) om_ si_ ?_;intro v2 w2 hown2 hg2 hat2;clear hat2;have hB2:Below wr.heap.size wr w2:=(bA_ (aE_) HOL.out hg2 si_ (Nat.le_refl _));obtain ⟨A2,c2,hv2⟩:=nH_ hown2;subst hv2;have HX2:Hid (w2.ownsRow base 3 1 (.slice A2 (1+u.length) c2) (c::u).length ((c::u).map (.int .i64))):=hd_ (by have:=y0_ hown2 hbs;rw [List.length_cons,Nat.add_comm u.length 1];exact this);clear hown2 hg2)
    | (at_builtin;refine b4_ _ rfl (.tmp 23) (.tmp 25) _ rfl base 73 iS (.slice none 0 0) 1 24 Tryz.underlying196 hiS hzS hzS1 hzS2 rfl de_ _ D.length _ rfl (World.ownsRow.alloc (aV_ G1.out hB2) _) _ _ 1 1 [.slice A2 (1+u.length) c2] rfl (Sl.lit (sz:=1) _ #[.slice A2 (1+u.length) c2] 73 1 rfl) (by simp [Value.oneCell']) (by simp only [maxLen];omega) om_ (by have:=hB2.size;simp;omega) ?_;intro v3 w3 hown3 hg3 hat3;have HO3:Hid (gC_ w3 base v3 (D++[c::u])):=hd_ (gC_.app (World.ownsRow.alloc (aV_ G1.out hB2) _) g2 (fun j v z hv hz=>World.ownsRow.alloc (aV_ (G3.out j v z hv hz) hB2) _) (World.ownsRow.alloc HX2.out _) hown3 hg3);have HB3:Hid (Below base wr w3):=hd_ (((hB2.mono hbs).alloc (by have:=hB2.size;omega) _).trans (ab3_ (World.ownsRow.alloc (aV_ G1.out hB2) _) hg3 (Nat.le_refl _) (by have:=hB2.size;simp;omega)));have HG3:=hd_ hg3;have HA3:=hd_ hat3;have hs3:=hg3.size;clear hown3 hg3 hat3))
   go_roundw
   case measure=>exact me_
   case rel =>
    refine ⟨m+1,_,by omega,by go_num,rfl,by rw [HTK.out];exact HO3.out,HBK.out.trans HB3.out,by have:=hB2.size;have:=HG3.out.size;simp at this;omega,fun b' hb' hne=>?_,fun g hg=>?_⟩
    ·have hn2:u0.ownBlock≠some b':=fun e=>by
      rcases HGK.out b' e with h|h
      ·exact hne h
      ·omega
     have e1:=HG3.out.block b' (by have:=hB2.size;simp;omega) (by intro e;exact hn2 e.symm);rw [e1,Below.heap_alloc _ _ _ (by have:=hB2.size;omega),hB2.block b' om_];exact HKK.out b' hb' hne
    ·rcases HA3.out with h|h
     ·exact HGK.out g (h▸hg)
     ·rw [h] at hg
      cases hg
      right
      have:=hB2.size;simp;omega
  ·have:(l.take m)=l:=List.take_of_length_le om_;rw [this] at HOK;go_wp2;go_ret;exact ⟨_,rfl,HOK.out,HBK.out,hsk,HKK.out⟩
end
section
theorem xU_ {d:Nd} (h:cP_ d.op d.text d.n=0):(∃ t,d=⟨1,t,0⟩/\t.size<=20)∨d=⟨2,.empty,0⟩∨d=⟨3,.empty,0⟩∨d=⟨4,.empty,0⟩∨d=⟨5,.empty,0⟩∨d=⟨6,.empty,0⟩ ∨
  (∃ n:Nat,n<=8/\d=⟨7,.empty,n⟩)∨d=⟨8,.empty,0⟩∨d=⟨9,.empty,0⟩:=by
 obtain ⟨op,t,n⟩:=d;simp only at h;have hop:1<=op/\op<=9:=by
  by_cases hc:op<1∨9<op
  ·rw [cP_,if_pos hc] at h;cases h
  ·omega
 have hsh:¬ ((op≠1/\t.toList≠[])∨(op≠7/\n≠0)):=by
  intro hc;rw [cP_,if_neg om_,if_pos hc] at h;cases h
 have ht:op≠1->t=.empty:=by
  intro h1;have:t.toList=[]:=by
   by_cases hc:t.toList=[]
   ·exact hc
   ·exact absurd (.inl ⟨h1,hc⟩) hsh
  rw [ByteArray.toList_eq] at this;obtain ⟨⟨l⟩⟩:=t;simp only at this;rw [this];rfl
 have hn0:op≠7->n=0:=by
  intro h1
  by_cases hc:n=0
  ·exact hc
  ·exact absurd (.inr ⟨h1,hc⟩) hsh
 unfold cP_ at h;rw [if_neg om_,if_neg hsh] at h;have:op=1∨op=2∨op=3∨op=4∨op=5∨op=6∨op=7∨op=8∨op=9:=by omega
 rcases this with rfl|rfl|rfl|rfl|rfl|rfl|rfl|rfl|rfl
 case inr.inr.inr.inr.inr.inr.inl =>
  rw [ht de_];rw [if_neg si_] at h;have hn:0<=n/\n<=8:=by
   by_cases hc:n<0∨8<n
   ·rw [if_pos hc] at h;cases h
   ·omega
  exact .inr (.inr (.inr (.inr (.inr (.inr (.inl ⟨n.toNat,by omega,by rw [show ((n.toNat:Nat):Int)=n by omega]⟩))))))
 case inl =>
  rw [hn0 de_];refine .inl ⟨t,rfl, ?_⟩
  by_cases hc:20<t.size
  ·rw [if_pos ⟨rfl,.inr (.inl hc)⟩] at h;cases h
  ·omega
 all_goals rw [ht de_,hn0 de_];simp
end
section
theorem o7_ (n:Nat):(bO_ n).size=n:=by simp [bO_,ByteArray.size]
def mB_ (r:Except Int (ByteArray × List Int)) (k:List Int->Except Int (ByteArray × List Int)):Except Int (ByteArray × List Int):=match r with
 | .error e=>.error e
 | .ok (s,w')=>match k w' with
  | .error e=>.error e
  | .ok (t,w'')=>.ok (s++t,w'')
variable {l:List Nd} {x:D}
theorem Doc.lay6 (hd:Doc l x) {i:Nat} (hi:i<l.length) {t:ByteArray} (hnd:l[i]=Nd.mk 6 t 0) :
  ∃ q:Nat,i+1<l.length/\q<l.length/\i+1<q/\bL_ l (i+1)=q/\(a7_ l i).sz=(a7_ l (i+1)).sz+(a7_ l q).sz+1 /\
   ∀ dp ws,(a7_ l i).lay dp ws=mB_ ((a7_ l (i+1)).lay dp ws) ((a7_ l q).lay dp):=by
 rcases hd.parts_ hi with ⟨h1,_⟩|⟨h1,_⟩|⟨h1,h2,h3,h4⟩
 ·rw [hnd] at h1;simp [parts] at h1
 ·rw [hnd] at h1;simp [parts] at h1
 ·refine ⟨_,h2,h3,by have:=(a7_ l (i+1)).sz_pos;omega,rfl,by rw [h4];rfl,fun dp ws=>?_⟩;rw [h4,hnd];simp only [D.lay,if_true,Int.add_zero];rfl
theorem Doc.lay7 (hd:Doc l x) {i:Nat} (hi:i<l.length) {t:ByteArray} {n:Int} (hnd:l[i]=Nd.mk 7 t n) :
  i+1<l.length/\(a7_ l i).sz=(a7_ l (i+1)).sz+1/\∀ dp ws,(a7_ l i).lay dp ws=(a7_ l (i+1)).lay (dp+n) ws:=by
 rcases hd.parts_ hi with ⟨h1,_⟩|⟨h1,h2,h3⟩|⟨h1,_⟩
 ·rw [hnd] at h1;simp [parts] at h1
 ·refine ⟨h2,by rw [h3];rfl,fun dp ws=>?_⟩;rw [h3,hnd];simp only [D.lay,if_true]
 ·rw [hnd] at h1;simp [parts] at h1
theorem Doc.lay8 (hd:Doc l x) {i:Nat} (hi:i<l.length) {t:ByteArray} (hnd:l[i]=Nd.mk 8 t 0) :
  i+1<l.length/\(a7_ l i).sz=(a7_ l (i+1)).sz+1/\∀ dp,(a7_ l i).lay dp []=.error 2/\(∀ ws,(a7_ l i).lay dp (1::ws)=(a7_ l (i+1)).lay dp ws) /\
   (∀ ws,(a7_ l i).lay dp (0::ws)=(match (a7_ l (i+1)).flat with|some s=>.ok (s,ws)|none=>.error 4)):=by
 rcases hd.parts_ hi with ⟨h1,_⟩|⟨h1,h2,h3⟩|⟨h1,_⟩
 ·rw [hnd] at h1;simp [parts] at h1
 ·refine ⟨h2,by rw [h3];rfl,fun dp=>?_⟩;rw [h3,hnd];refine ⟨?_,fun ws=>?_,fun ws=>?_⟩
  ·simp only [D.lay];rw [if_neg de_]
  ·simp only [D.lay];rw [if_neg de_,if_neg de_,Int.add_zero]
  ·simp only [D.lay];rw [if_neg de_,if_pos trivial];cases (a7_ l (i+1)).flat <;> rfl
 ·rw [hnd] at h1;simp [parts] at h1
theorem Doc.lay9 (hd:Doc l x) {i:Nat} (hi:i<l.length) {t:ByteArray} (hnd:l[i]=Nd.mk 9 t 0) :
  ∃ q:Nat,i+1<l.length/\q<l.length/\i+1<q/\bL_ l (i+1)=q/\(a7_ l i).sz=(a7_ l (i+1)).sz+(a7_ l q).sz+1 /\
   ∀ dp,(a7_ l i).lay dp []=.error 2/\(∀ ws,(a7_ l i).lay dp (0::ws)=(a7_ l (i+1)).lay dp ws)/\(∀ ws,(a7_ l i).lay dp (1::ws)=(a7_ l q).lay dp ws):=by
 rcases hd.parts_ hi with ⟨h1,_⟩|⟨h1,_⟩|⟨h1,h2,h3,h4⟩
 ·rw [hnd] at h1;simp [parts] at h1
 ·rw [hnd] at h1;simp [parts] at h1
 ·refine ⟨_,h2,h3,by have:=(a7_ l (i+1)).sz_pos;omega,rfl,by rw [h4];rfl,fun dp=>?_⟩;rw [h4,hnd];refine ⟨?_,fun ws=>?_,fun ws=>?_⟩
  ·simp only [D.lay];rw [if_neg de_]
  ·simp only [D.lay];rw [if_neg de_,if_pos trivial,Int.add_zero]
  ·simp only [D.lay];rw [if_neg de_,if_neg de_,Int.add_zero]
theorem Doc.lay0 (hd:Doc l x) {i:Nat} (hi:i<l.length) {op n:Int} {t:ByteArray} (hnd:l[i]=Nd.mk op t n) (h:parts op=0) (dp:Int) (ws:List Int) :
  (a7_ l i).lay dp ws=(D.leaf ⟨op,t,n⟩).lay dp ws:=by
 rcases hd.parts_ hi with ⟨h1,h2⟩|⟨h1,_⟩|⟨h1,_⟩
 ·rw [h2,hnd]
 ·rw [hnd,h] at h1;simp at h1
 ·rw [hnd,h] at h1;simp at h1
theorem Doc.lay_sz (hd:Doc l x) {i:Nat} (hi:i<l.length) {dp:Nat} {ws r:List Int} {s:ByteArray} (h:(a7_ l i).lay dp ws=.ok (s,r)) (hb:dp+8*(a7_ l i).sz<=3200):s.size<=7000*(a7_ l i).sz:=by
 have h1:=D.lay_size (hd.good_at hi) om_ h;have h2:(a7_ l i).sz*(21+((dp:Int).toNat+8*(a7_ l i).sz))<=(a7_ l i).sz*7000:=Nat.mul_le_mul_left _ so_;omega
theorem Doc.lay_bits {i:Nat} {dp:Int} {ws r:List Int} {s:ByteArray} (h:(a7_ l i).lay dp ws=.ok (s,r)) (hb:Bits ws):Bits r/\r.length<=ws.length:=by
 obtain ⟨u,_,rfl,_⟩:=D.way_of hb h;exact ⟨fun c hc=>hb c (by simp [hc]),by simp⟩
end
section
open Go.RowKit
def anM_ (P:Nat->Prop) (res:List (List Int)) (w:World) (e:Ending) (w':World):Prop :=
 ∃ A' c',e=.returned (.slice A' res.length c')/\res.length<=c'/\dR_ (fun b=>P b∨w.heap.size<=b) w' A' res/\Below w.heap.size w w'
def ae6_ (l:List Nd) (A:Option Addr) (c f:Nat):Prop :=
 ∀ (i:Nat) (v:Int) (B:List (List Int)) (P:Nat->Prop) (BA:Option Addr) (bn bc k:Nat) (w:World),v=i->i<l.length->l.length<=i+f->Nds w w.heap.size A l->dR_ P w BA B->(∀ b,P b->b<w.heap.size)->B.length=bn->bn<=bc->bn<=301->(∀ u ∈ B,u.length<=k)->k+(a7_ l i).sz<=1000 ->
  Calls Tryz.prog 167 #[.slice A l.length c,.int .i64 v,.slice BA bn bc,.int .i64 300] w (anM_ P (bK_ 301 (a7_ l i) B) w)
theorem gC_.apart {w:World} {B:Nat} {ov:Value} {done:List (List Int)} {P:Nat->Prop} (h:gC_ w B ov done) (hP:∀ b,P b->b<B) {N:Nat} (hN:w.heap.size<=N):∀ b,(P b∨N<=b)->ov.ownBlock≠some b:=by
 obtain ⟨vs,h1,_⟩:=h;intro b hb e;have:=h1.lt b e
 rcases hb with hb|hb
 ·have:=hP b hb;omega
 ·omega
theorem dC12 (h:P:=by
 rw [HDD.out] at HOE;have hbw:Below w.heap.size w w5:=HBE.out;obtain ⟨A7,c7,hov,hc7,hq7⟩:=HOE.out.form;subst hov;have HQ7:=hd_ hq7;clear hq7
 by_cases hbig:301<DD.length
 ·have q1:(0:Int)<=301:=by omega
  have q2:(301:Int)<=(c7:Int):=by omega
  have k5:decide (301<(DD.length:Int))=true:=decide_eq_true om_;have k6:decide (301<DD.length)=true:=decide_eq_true hbig;have htl:(DD.take 301).length=301:=by rw [List.length_take];omega
  go_wp2;go_ret;exact ⟨A7,c7,by rw [htl];rfl,by omega,(HQ7.out.take 301).mono (fun b hb=>Or.inr hb),hbw⟩
 ·have k5:decide (301<(DD.length:Int))=false:=decide_eq_false om_;have k6:decide (301<DD.length)=false:=decide_eq_false hbig;have htl:DD.take 301=DD:=List.take_of_length_le om_;go_wp2;go_ret;exact ⟨A7,c7,by rw [htl];rfl,by rw [htl];exact hc7,by rw [htl];exact HQ7.out.mono (fun b hb=>Or.inr hb),hbw⟩):P:=h
theorem ah7_ {l:List Nd} {x:D} (hd:Doc l x) (A:Option Addr) (c:Nat):∀ f,ae6_ l A c f:=by
 have h400:=hd.len;have HD:=hd_ hd;clear hd;intro f
 induction f with
 | zero=>intro i v B P BA bn bc k w hv hi hf;omega
 | succ f ih =>
  intro i v B P BA bn bc k w hv hi hf hl hq hP hbn hbc hb3 hbk hks;subst hv hbn;have HI:=hd_ ih;clear ih;have hsp:=(a7_ l i).sz_pos;obtain ⟨b,off,op,t,n,rfl,hb,hnd,hts,d1,d2,d3⟩:=hl.node (Below.refl _ _) hi;have hone:=HD.out.one _ (List.getElem_mem hi);rw [hnd] at hone;have HN:=hd_ hl;have HQ:=hd_ hq;have HP:=hd_ hP;have HBK:=hd_ hbk;have HQB:Hid (∀ w':World,Below w.heap.size w w'->dR_ P w' BA B):=hd_ (fun w' hb=>hq.keep (fun b hbb=>hb.block b (hP b hbb)));clear hl hq hP hbk;have k1:IntKind.i64.wrap ((i:Int)+1)=(i:Int)+1:=IntWalk.i64_in _ om_
  rcases xU_ hone with ⟨t',he,ht⟩|he|he|he|he|he|⟨n',hn',he⟩|he|he <;> cases he <;> clear hone
  case succ.inr.inr.inr.inr.inr.inr.inl.refl =>
   rcases HD.out.parts_ hi with ⟨h1,_⟩|⟨h1,hi1,h3⟩|⟨h1,_⟩
   ·rw [hnd] at h1;simp [parts] at h1
   ·have hres:bK_ 301 (a7_ l i) B=bK_ 301 (a7_ l (i+1)) B:=by rw [h3,hnd];simp [bK_]
    have hsz:(a7_ l i).sz=(a7_ l (i+1)).sz+1:=by rw [h3];rfl
    rw [hres];clear hnd hres h3 h1;go_enter Tryz.func167,Tryz.ntmps167;go_wp2_with (go_at_call 167;refine (HI.out (i+1) _ B P BA _ bc k _ om_ hi1 om_ HN.out HQ.out HP.out rfl hbc hb3 HBK.out om_).mono ?_;rintro e w1 ⟨A1,c1,rfl,h1,h2,h3⟩);go_ret;exact ⟨A1,c1,rfl,h1,h2,h3⟩
   ·rw [hnd] at h1;simp [parts] at h1
  case succ.inr.inr.inr.inr.inr.inl.refl =>
   rcases HD.out.parts_ hi with ⟨h1,_⟩|⟨h1,_⟩|⟨h1,hi1,hq1,h4⟩
   ·rw [hnd] at h1;simp [parts] at h1
   ·rw [hnd] at h1;simp [parts] at h1
   ·obtain ⟨q,hqe⟩:∃ q,i+1+(a7_ l (i+1)).sz=q:=⟨_,rfl⟩;rw [hqe] at hq1 h4;have hqz:=(a7_ l (i+1)).sz_pos;have hiq:i+1<q:=by omega
    have hres:bK_ 301 (a7_ l i) B=bK_ 301 (a7_ l (i+1)) (bK_ 301 (a7_ l q) B):=by rw [h4,hnd];simp [bK_]
    have hsz:(a7_ l i).sz=(a7_ l (i+1)).sz+(a7_ l q).sz+1:=by rw [h4];rfl
    have hce:=fun w' hw=>uC_ HD.out (some ⟨b,off,none⟩) c w' hw (i:=i+1) (v:=(i:Int)+1) om_ hi1
    rw [show bL_ l (i+1)=q from hqe] at hce;have HCE:=hd_ hce;rw [hres];have hT3:=hC_ 301 (a7_ l q) B hb3;have HTR:=hd_ (fO_ 301 k (a7_ l q) B HBK.out);have HI1:=hd_ (HI.out q (q:Int) B P BA B.length bc k);generalize bK_ 301 (a7_ l q) B=T at *;clear hnd hres h4 h1 hce hqe;go_enter Tryz.func167,Tryz.ntmps167;go_wp2_with (first
     | (go_at_call 194;refine (HCE.out _ HN.out).mono ?_;rintro e w0 ⟨rfl,rfl⟩)
     | (go_at_call 167;(fail_if_success have hz:=h3);refine (HI1.out _ (by trivial) hq1 om_ HN.out HQ.out HP.out (by trivial) hbc hb3 HBK.out om_).mono ?_;rintro e w1 ⟨A1,c1,rfl,h1,h2,h3⟩;have H2:=hd_ h2.bound;have H3:=hd_ h3;clear h2)
     | (go_at_call 167;refine (HI.out (i+1) _ T _ A1 _ c1 ((a7_ l q).sz+k) _ om_ hi1 om_ (HN.out.past H3.out) H2.out (fun b hb=>hb.2) rfl h1 hT3 HTR.out om_).mono ?_;rintro e w2 ⟨A2,c2,rfl,h4,h5,h6⟩))
    go_ret;refine ⟨A2,c2,rfl,h4,h5.mono (fun b hb=>?_),H3.out.trans (h6.mono H3.out.size)⟩;have:=H3.out.size
    rcases hb with hb|hb
    ·exact hb.1
    ·exact .inr om_
  case succ.inr.inr.inr.inr.inr.inr.inr.inr.refl =>
   rcases HD.out.parts_ hi with ⟨h1,_⟩|⟨h1,_⟩|⟨h1,hi1,hq1,h4⟩
   ·rw [hnd] at h1;simp [parts] at h1
   ·rw [hnd] at h1;simp [parts] at h1
   ·obtain ⟨q,hqe⟩:∃ q,i+1+(a7_ l (i+1)).sz=q:=⟨_,rfl⟩;rw [hqe] at hq1 h4;have hqz:=(a7_ l (i+1)).sz_pos;have hiq:i+1<q:=by omega
    have hres:bK_ 301 (a7_ l i) B=((bK_ 301 (a7_ l (i+1)) B).map (0::·)++(bK_ 301 (a7_ l q) B).map (1::·)).take 301:=by rw [h4,hnd];simp [bK_]
    have hsz:(a7_ l i).sz=(a7_ l (i+1)).sz+(a7_ l q).sz+1:=by rw [h4];rfl
    have hce:=fun w' hw=>uC_ HD.out (some ⟨b,off,none⟩) c w' hw (i:=i+1) (v:=(i:Int)+1) om_ hi1
    rw [show bL_ l (i+1)=q from hqe] at hce;have HCE:=hd_ hce;rw [hres];have hT3:=hC_ 301 (a7_ l q) B hb3;have hS3:=hC_ 301 (a7_ l (i+1)) B hb3;have hTR:=fO_ 301 k (a7_ l q) B HBK.out;have hSR:=fO_ 301 k (a7_ l (i+1)) B HBK.out;have HTR:Hid (∀ u ∈ bK_ 301 (a7_ l q) B,u.length<=1000000):=hd_ (fun u hu=>by have:=hTR u hu;omega);have HSR:Hid (∀ u ∈ bK_ 301 (a7_ l (i+1)) B,u.length<=1000000):=hd_ (fun u hu=>by have:=hSR u hu;omega);have HI1:=hd_ (HI.out (i+1) ((i:Int)+1) B P BA B.length bc k);have HI2:=hd_ (HI.out q (q:Int) B P BA B.length bc k);clear hTR hSR;generalize bK_ 301 (a7_ l q) B=T at *;generalize bK_ 301 (a7_ l (i+1)) B=S at *;have hDL:(S.map (0::·)++T.map (1::·)).length=S.length+T.length:=by simp
    clear hnd hres h4 h1 hce hqe;obtain ⟨DD,hDD⟩:∃ DD,S.map (0::·)++T.map (1::·)=DD:=⟨_,rfl⟩;rw [hDD] at hDL ⊢;have HDD:=hd_ hDD;clear hDD;go_enter Tryz.func167,Tryz.ntmps167;go_upto_region 16 with (first
     | (go_at_call 167;(fail_if_success have hz:=H3);refine (HI1.out _ (by first|trivial|omega) hi1 om_ HN.out HQ.out HP.out (by trivial) hbc hb3 HBK.out om_).mono ?_;rintro e w1 ⟨A1,c1,rfl,h1,h2,h3⟩;have H2:=hd_ h2;have H3:=hd_ h3;clear h2 h3)
     | (go_at_call 196;(fail_if_success have hz:=HO2);refine (gZ_ w.heap.size 0 S _ A1 _ c1 rfl (.slice none 0 0) [] w1 H2.out (fun b _ e=>by cases e) (gC_.nil _ _) H3.out.size so_ HSR.out).mono ?_;rintro e w2 ⟨ov2,rfl,hO2,hB2,hs2,-⟩;rw [List.nil_append] at hO2;have HO2:=hd_ hO2;have HB2:Hid (Below w.heap.size w w2):=hd_ (H3.out.trans hB2);clear hO2 hB2)
     | (go_at_call 194;refine (HCE.out _ (HN.out.past HB2.out)).mono ?_;rintro e w3 ⟨rfl,rfl⟩)
     | (go_at_call 167;refine (HI2.out _ (by first|trivial|omega) hq1 om_ (HN.out.past HB2.out) (HQB.out _ HB2.out) (fun b hb=>Nat.lt_of_lt_of_le (HP.out b hb) HB2.out.size) (by trivial) hbc hb3 HBK.out om_).mono ?_;rintro e w4 ⟨A4,c4,rfl,h4,h5,h6⟩;have H5:=hd_ h5;have H6:=hd_ h6;have hap:=HO2.out.apart HP.out (Nat.le_refl w2.heap.size);have HAP:=hd_ hap;clear h5 h6 hap)
     | (go_at_call 196;refine (gZ_ w.heap.size 1 T _ A4 _ c4 rfl ov2 (S.map (0::·)) w4 H5.out HAP.out (HO2.out.past H6.out) (by have:=HB2.out.size;have:=H6.out.size;omega) so_ HTR.out).mono ?_;rintro e w5 ⟨ov5,rfl,hO5,hB5,hs5,-⟩;have HOE:=hd_ hO5;have HBE:Hid (Below w.heap.size w w5):=hd_ ((HB2.out.trans (H6.out.mono HB2.out.size)).trans hB5);clear hO5 hB5))
    exact dC12
  case succ.inr.inr.inr.inr.inr.inr.inr.inl.refl =>
   rcases HD.out.parts_ hi with ⟨h1,_⟩|⟨h1,hi1,h3⟩|⟨h1,_⟩
   ·rw [hnd] at h1;simp [parts] at h1
   ·have hres:bK_ 301 (a7_ l i) B=((if (a7_ l (i+1)).flat.isSome=true then B.map (0::·) else [])++(bK_ 301 (a7_ l (i+1)) B).map (1::·)).take 301:=by rw [h3,hnd];simp [bK_]
    have hsz:(a7_ l i).sz=(a7_ l (i+1)).sz+1:=by rw [h3];rfl
    have hfo:=fun w' h=>rX_ HD.out (some ⟨b,off,none⟩) c l.length (i+1) ((i:Int)+1) w' h om_ hi1 om_
    rw [show aP_ l (i+1)=g2_ (a7_ l (i+1)).flat from rfl] at hfo;have HFO:=hd_ hfo;rw [hres];have hS3:=hC_ 301 (a7_ l (i+1)) B hb3;have hSR:=fO_ 301 k (a7_ l (i+1)) B HBK.out;have HSR:Hid (∀ u ∈ bK_ 301 (a7_ l (i+1)) B,u.length<=1000000):=hd_ (fun u hu=>by have:=hSR u hu;omega);have HBR:Hid (∀ u ∈ B,u.length<=1000000):=hd_ (fun u hu=>by have:=HBK.out u hu;omega);have HI1:=hd_ (HI.out (i+1) ((i:Int)+1) B P BA B.length bc k);clear hSR hfo;generalize bK_ 301 (a7_ l (i+1)) B=S at *;generalize (a7_ l (i+1)).flat=fl at *;clear hnd hres h3 h1
    cases fl with
    | none =>
     simp only [g2_] at HFO;simp only [Option.isSome_none,Bool.false_eq_true,if_false,List.nil_append];have hDL:(S.map (1::·)).length=S.length:=by simp
     obtain ⟨DD,hDD⟩:∃ DD,S.map (1::·)=DD:=⟨_,rfl⟩;rw [hDD] at hDL ⊢;have HDD:=hd_ hDD;clear hDD;go_enter Tryz.func167,Tryz.ntmps167;go_upto_region 16 with (first
      | (go_at_call 195;refine (HFO.out _ HN.out).mono ?_;rintro e w0 ⟨rfl,hB0⟩;have HB2:=hd_ hB0;clear hB0)
      | (go_at_call 167;refine (HI1.out _ (by first|trivial|omega) hi1 om_ (HN.out.past HB2.out) (HQB.out _ HB2.out) (fun b hb=>Nat.lt_of_lt_of_le (HP.out b hb) HB2.out.size) (by trivial) hbc hb3 HBK.out om_).mono ?_;rintro e w4 ⟨A4,c4,rfl,h4,h5,h6⟩;have H5:=hd_ h5;have H6:=hd_ h6;clear h5 h6)
      | (go_at_call 196;refine (gZ_ w.heap.size 1 S _ A4 _ c4 rfl (.slice none 0 0) [] w4 H5.out (fun b _ e=>by cases e) (gC_.nil _ _) (by have:=HB2.out.size;have:=H6.out.size;omega) so_ HSR.out).mono ?_;rintro e w5 ⟨ov5,rfl,hO5,hB5,hs5,-⟩;rw [List.nil_append] at hO5;have HOE:=hd_ hO5;have HBE:Hid (Below w.heap.size w w5):=hd_ ((HB2.out.trans (H6.out.mono HB2.out.size)).trans hB5);clear hO5 hB5))
     rw [HDD.out] at HOE;have hbw:Below w.heap.size w w5:=HBE.out;obtain ⟨A7,c7,hov,hc7,hq7⟩:=HOE.out.form;subst hov;have HQ7:=hd_ hq7;clear hq7
     by_cases hbig:301<DD.length
     ·exact absurd hbig om_
     ·have k5:decide (301<(DD.length:Int))=false:=decide_eq_false om_;have k6:decide (301<DD.length)=false:=decide_eq_false hbig;have htl:DD.take 301=DD:=List.take_of_length_le om_;go_wp2;go_ret;exact ⟨A7,c7,by rw [htl];rfl,by rw [htl];exact hc7,by rw [htl];exact HQ7.out.mono (fun b hb=>Or.inr hb),hbw⟩
    | some s =>
     simp only [g2_] at HFO;simp only [Option.isSome_some,if_true];have hDL:(B.map (0::·)++S.map (1::·)).length=B.length+S.length:=by simp
     obtain ⟨DD,hDD⟩:∃ DD,B.map (0::·)++S.map (1::·)=DD:=⟨_,rfl⟩;rw [hDD] at hDL ⊢;have HDD:=hd_ hDD;clear hDD;go_enter Tryz.func167,Tryz.ntmps167;go_upto_region 16 with (first
      | (go_at_call 195;refine (HFO.out _ HN.out).mono ?_;rintro e w0 ⟨rfl,hB0⟩;have HB1:=hd_ hB0;clear hB0)
      | (go_at_call 196;(fail_if_success have hz:=HO2);refine (gZ_ w.heap.size 0 B _ BA _ bc rfl (.slice none 0 0) [] w0 (HQB.out _ HB1.out) (fun b _ e=>by cases e) (gC_.nil _ _) HB1.out.size so_ HBR.out).mono ?_;rintro e w2 ⟨ov2,rfl,hO2,hB2,hs2,-⟩;rw [List.nil_append] at hO2;have HO2:=hd_ hO2;have HB2:Hid (Below w.heap.size w w2):=hd_ (HB1.out.trans hB2);clear hO2 hB2)
      | (go_at_call 167;refine (HI1.out _ (by first|trivial|omega) hi1 om_ (HN.out.past HB2.out) (HQB.out _ HB2.out) (fun b hb=>Nat.lt_of_lt_of_le (HP.out b hb) HB2.out.size) (by trivial) hbc hb3 HBK.out om_).mono ?_;rintro e w4 ⟨A4,c4,rfl,h4,h5,h6⟩;have H5:=hd_ h5;have H6:=hd_ h6;have hap:=HO2.out.apart HP.out (Nat.le_refl w2.heap.size);have HAP:=hd_ hap;clear h5 h6 hap)
      | (go_at_call 196;refine (gZ_ w.heap.size 1 S _ A4 _ c4 rfl ov2 (B.map (0::·)) w4 H5.out HAP.out (HO2.out.past H6.out) (by have:=HB2.out.size;have:=H6.out.size;omega) so_ HSR.out).mono ?_;rintro e w5 ⟨ov5,rfl,hO5,hB5,hs5,-⟩;have HOE:=hd_ hO5;have HBE:Hid (Below w.heap.size w w5):=hd_ ((HB2.out.trans (H6.out.mono HB2.out.size)).trans hB5);clear hO5 hB5))
     exact dC12
   ·rw [hnd] at h1;simp [parts] at h1
  all_goals
   have hres:bK_ 301 (a7_ l i) B=B:=by
    rcases HD.out.parts_ hi with ⟨h1,h2⟩|⟨h1,_⟩|⟨h1,_⟩
    ·rw [h2];rfl
    ·rw [hnd] at h1;simp [parts] at h1
    ·rw [hnd] at h1;simp [parts] at h1
   rw [hres];clear hnd hres;go_enter Tryz.func167,Tryz.ntmps167;go_wp2;go_ret;exact ⟨BA,bc,rfl,hbc,HQ.out.mono (fun b hb=>.inl hb),Below.refl _ _⟩
theorem D.way_lenR {x:D} {u:List Int} (h:u ∈ x.ways):u.length<=x.sz:=by
 obtain ⟨s,hs⟩:=D.lay_way (dp:=0) h;have:=D.lay_len hs
 simpa using this
def anH_ (l:List (List Int)) (w:World) (e:Ending) (w':World):Prop:=Below w.heap.size w w' /\
 ((l.length<=300/\∃ A c,e=.returned (.tuple #[.slice A l.length c,.bool true])/\l.length<=c/\w3_ w' w'.heap.size A l/\dR_ (fun b=>w.heap.size<=b) w' A l)∨(300<l.length/\e=.returned (.tuple #[.slice none 0 0,.bool false])))
theorem aaV_ {l:List Nd} {x:D} (hd:Doc l x) (A:Option Addr) (n c:Nat) (hn:l.length=n) (w:World) (hl:Nds w w.heap.size A l) :
  Calls Tryz.prog 103 #[.slice A n c] w (anH_ x.ways w):=by
 subst hn;have h400:=hd.len;have hsz:(a7_ l 0).sz=l.length:=by rw [hd.root,hd.szx]
 have hq0:dR_ (fun b=>b=w.heap.size) (w.alloc (.cells #[.slice none 0 0] 73)) (some ⟨w.heap.size,0,none⟩) [[]]:=by
  refine ⟨[.slice none 0 0],rfl,fun _=>⟨w.heap.size,0,rfl,rfl,fun j u hu=>?_⟩,fun j v u hv hu=>?_⟩
  ·cases j with
   | zero =>
    simp at hu;subst hu;rw [Lib.cell_of_heap (heap_alloc_new w _)];rfl
   | succ j=>simp at hu
  ·cases j with
   | zero =>
    simp at hv hu;subst hv hu;exact ⟨none,0,rfl,Nat.le_refl _,fun h=>by simp at h⟩
   | succ j=>simp at hv
 have hT:bK_ 301 (a7_ l 0) [[]]=x.ways.take 301:=by rw [hd.root,ah6_]
 have hTA:=ah7_ hd A c l.length 0 0 [[]] (fun b=>b=w.heap.size) (some ⟨w.heap.size,0,none⟩) 1 1 0 (w.alloc (.cells #[.slice none 0 0] 73)) rfl hd.pos om_ (hl.past (aE_)) hq0 (by intro b hb;subst hb;simp) rfl (Nat.le_refl _) om_ (by intro u hu;simp at hu;simp [hu]) om_;rw [hT] at hTA;have HTA:=hd_ hTA;have HWL:=hd_ (fun u hu=>D.way_lenR (x:=x) (u:=u) hu);have hsx:=hd.szx;generalize x.ways=W at *;clear hl hd hT hTA hq0;go_enter Tryz.func103,Tryz.ntmps103;go_wp2_with fail;refine HTA.out.mono ?_;rintro e w1 ⟨A1,c1,rfl,h1,h2,h3⟩;have hB:Below w.heap.size w w1:=(aE_).trans (h3.mono si_);have H2:=hd_ h2;clear h2 h3
 by_cases hw:W.length<=300
 ·have ht:W.take 301=W:=List.take_of_length_le om_;rw [ht] at h1 H2;rw [ht];have k1:decide (300<(W.length:Int))=false:=decide_eq_false om_;have k2:decide (300<W.length)=false:=decide_eq_false om_;go_wp2;go_ret2;exact ⟨hB,.inl ⟨hw,A1,c1,rfl,h1,H2.out.rowsI (by simp only [maxLen];omega) (fun u hu=>by have:=HWL.out u hu;simp only [maxLen];omega),H2.out.mono (fun b hb=>by rcases hb with hb|hb <;> (try simp at hb) <;> omega)⟩⟩
 ·have ht:(W.take 301).length=301:=by rw [List.length_take];omega
  rw [ht];go_wp2;go_ret2;exact ⟨hB,.inr ⟨by omega,rfl⟩⟩
theorem ab7_ (n:Nat) (hn:n<=100000) (w:World):Calls Tryz.prog 197 #[.int .i64 n] w fun e w'=>e=.returned (.string (bO_ n))/\w=w':=by
 go_enter Tryz.func197,Tryz.ntmps197;go_wp2
 go_loop [3,4] (fun s i=>∃ k:Nat,k<=n/\i=.int .i64 k/\s=.string (bO_ k)) (fun _ i=>n-(intOf i).toNat)
 case atStart=>exact ⟨0,by omega,rfl,rfl⟩
 case round =>
  obtain ⟨k,hk,rfl,rfl⟩:=hrel
  by_cases hlt:k<n
  ·have hz:=o7_ k;have hs:bO_ k++⟨#[32]⟩=bO_ (k+1):=by
    have:=wT_ .empty k
    simpa using this
   have HS:=hd_ hs;clear hs;generalize bO_ k=B0 at *;go_wp2
   go_round
   case rel=>exact ⟨k+1,by omega,by go_num,by rw [← HS.out]⟩
   case measure=>exact me_
  ·obtain rfl:k=n:=by omega
   go_wp2;go_ret;exact ⟨rfl,rfl⟩
structure Lay (g:Nat) (A:Option Addr) (c:Nat) (l:List Nd) (ws:List Int) (acc:ByteArray) (w:World):Prop where
 blk:∃ WA WC,w.heap[g]?=some (.cells #[.slice A l.length c,.slice WA ws.length WC,.string acc,.int .i64 0] 265 (0,0))/\dD_ w g WA ws/\ws.length<=WC
 nds:Nds w g A l
structure hS_ (g:Nat) (A:Option Addr) (c:Nat) (l:List Nd) (e:Int) (w:World):Prop where
 blk:∃ v1 v2,w.heap[g]?=some (.cells #[.slice A l.length c,v1,v2,.int .i64 e] 265 (0,0))
 nds:Nds w g A l
 ne:e≠0
theorem g1_ {w:World} {g:Nat} {o:Obj} (h:w.heap[g]?=some o):g<w.heap.size:=(Array.getElem?_eq_some_iff.1 h).1
theorem Nds.under_ {w w':World} {B C:Nat} {A:Option Addr} {l:List Nd} (h:Nds w B A l) (hb:Below C w w') (hC:B<=C):Nds w' B A l:=⟨h.1.below hb hC,h.2⟩
theorem Nds.upto {w:World} {B C:Nat} {A:Option Addr} {l:List Nd} (h:Nds w B A l) (hC:B<=C):Nds w C A l:=⟨h.1.more hC,h.2⟩
theorem dD_.under {w w':World} {B C:Nat} {A:Option Addr} {l:List Int} (h:dD_ w B A l) (hb:Below C w w') (hC:B<=C):dD_ w' B A l:=⟨h.1.below hb hC,h.2⟩
theorem Lay.lt {g:Nat} {A:Option Addr} {c:Nat} {l:List Nd} {ws:List Int} {acc:ByteArray} {w:World} (h:Lay g A c l ws acc w):g<w.heap.size:=by
 obtain ⟨WA,WC,h1,_⟩:=h.blk;exact g1_ h1
theorem hS_.lt {g:Nat} {A:Option Addr} {c:Nat} {l:List Nd} {e:Int} {w:World} (h:hS_ g A c l e w):g<w.heap.size:=by
 obtain ⟨WA,WC,h1⟩:=h.blk;exact g1_ h1
theorem Lay.past {g:Nat} {A:Option Addr} {c:Nat} {l:List Nd} {ws:List Int} {acc:ByteArray} {w w':World} (h:Lay g A c l ws acc w) (hb:Below w.heap.size w w'):Lay g A c l ws acc w':=by
 have hlt:=h.lt;obtain ⟨WA,WC,h1,h2,h3⟩:=h.blk;exact ⟨⟨WA,WC,(hb.block g hlt).trans h1,h2.under hb om_,h3⟩,h.nds.under_ hb om_⟩
theorem hS_.past {g:Nat} {A:Option Addr} {c:Nat} {l:List Nd} {e:Int} {w w':World} (h:hS_ g A c l e w) (hb:Below w.heap.size w w'):hS_ g A c l e w':=by
 have hlt:=h.lt;obtain ⟨v1,v2,h1⟩:=h.blk;exact ⟨⟨v1,v2,(hb.block g hlt).trans h1⟩,h.nds.under_ hb om_,h.ne⟩
theorem nU_ {w:World} {g:Nat} {a b c d v:Value} {T:TypeId} {fr:Nat × Nat} (h:w.heap[g]?=some (.cells #[a,b,c,d] T fr)) :
  (w.setCell ⟨g,1,none⟩ v).heap[g]?=some (.cells #[a,v,c,d] T fr)/\(w.setCell ⟨g,2,none⟩ v).heap[g]?=some (.cells #[a,b,v,d] T fr)/\(w.setCell ⟨g,3,none⟩ v).heap[g]?=some (.cells #[a,b,c,v] T fr):=by
 simp [World.setCell,Array.getElem?_modify,h]
theorem cR_ (w:World) (g j:Nat) (v:Value):Below g w (w.setCell ⟨g,j,none⟩ v):=(Below.refl g w).setCell (p:=⟨g,j,none⟩) (Nat.le_refl _) v
theorem Lay.text {g:Nat} {A:Option Addr} {c:Nat} {l:List Nd} {ws:List Int} {acc:ByteArray} {w:World} (h:Lay g A c l ws acc w) (s:ByteArray):Lay g A c l ws s (w.setCell ⟨g,2,none⟩ (.string s)):=by
 obtain ⟨WA,WC,h1,h2,h3⟩:=h.blk;exact ⟨⟨WA,WC,(nU_ h1).2.1,h2.under (cR_ _ _ _ _) (Nat.le_refl _),h3⟩,h.nds.under_ (cR_ _ _ _ _) (Nat.le_refl _)⟩
theorem Lay.fault {g:Nat} {A:Option Addr} {c:Nat} {l:List Nd} {ws:List Int} {acc:ByteArray} {w:World} (h:Lay g A c l ws acc w) {e:Int} (he:e≠0):hS_ g A c l e (w.setCell ⟨g,3,none⟩ (.int .i64 e)):=by
 obtain ⟨WA,WC,h1,h2,h3⟩:=h.blk;exact ⟨⟨_,_,(nU_ h1).2.2⟩,h.nds.under_ (cR_ _ _ _ _) (Nat.le_refl _),he⟩
theorem hS_.text {g:Nat} {A:Option Addr} {c:Nat} {l:List Nd} {e:Int} {w:World} (h:hS_ g A c l e w) (v:Value):hS_ g A c l e (w.setCell ⟨g,2,none⟩ v):=by
 obtain ⟨v1,v2,h1⟩:=h.blk;exact ⟨⟨_,_,(nU_ h1).2.1⟩,h.nds.under_ (cR_ _ _ _ _) (Nat.le_refl _),h.ne⟩
theorem abC_ {g:Nat} {A:Option Addr} {c:Nat} {l:List Nd} {acc:ByteArray} {w:World} (h:Lay g A c l [] acc w) :
  Calls Tryz.prog 198 #[.pointer (some ⟨g,0,none⟩)] w fun e w'=>e=.returned (.int .i64 0)/\hS_ g A c l 2 w'/\Below g w w':=by
 have hE:=h.fault (e:=2) de_;obtain ⟨WA,WC,h1,-,-⟩:=h.blk;have c1:w.cell? ⟨g,1,none⟩=some (.slice WA 0 WC):=by rw [Lib.cell_of_heap h1];rfl
 have c3:=Lib.frozen_of_heap h1 3;have c4:w.cell? ⟨g,3,none⟩=some (.int .i64 0):=by rw [Lib.cell_of_heap h1];rfl
 clear h h1;have HE:=hd_ hE;clear hE;go_enter Tryz.func198,Tryz.ntmps198;go_wp2;go_ret;exact ⟨rfl,HE.out,cR_ _ _ _ _⟩
theorem z7_ {g:Nat} {A:Option Addr} {c:Nat} {l:List Nd} {v:Int} {ws:List Int} {acc:ByteArray} {w:World} (h:Lay g A c l (v::ws) acc w) :
  Calls Tryz.prog 198 #[.pointer (some ⟨g,0,none⟩)] w fun e w'=>e=.returned (.int .i64 v)/\Lay g A c l ws acc w'/\Below g w w':=by
 obtain ⟨WA,WC,h1,h2,h3⟩:=h.blk;obtain ⟨b,off,v0,rfl,hb,hv,d1⟩:=h2.one (Below.refl _ _) (k:=0) si_;simp at hv;subst hv;rw [Nat.add_zero] at d1;have hT:=h2.tail h3;have hm:=h2.2;unfold maxLen at hm;have hL:∀ (v':Value),v'=.slice (if WC=1 then some ⟨b,off,none⟩ else some ⟨b,off+1,none⟩) ws.length (WC-1)->Lay g A c l ws acc (w.setCell ⟨g,1,none⟩ v'):=by
  rintro v' rfl;refine ⟨⟨_,_,(nU_ h1).1,hT.under (cR_ _ _ _ _) (Nat.le_refl _), ?_⟩,h.nds.under_ (cR_ _ _ _ _) (Nat.le_refl _)⟩;simp only [List.length_cons] at h3;omega
 have c1:w.cell? ⟨g,1,none⟩=some (.slice (some ⟨b,off,none⟩) (ws.length+1) WC):=by rw [Lib.cell_of_heap h1];rfl
 have c3:=Lib.frozen_of_heap h1 1;simp only [List.length_cons] at h3 hm;clear h h1 h2 hT;have HL:=hd_ hL;clear hL;generalize ws.length=n at *;go_enter Tryz.func198,Tryz.ntmps198;go_wp2
 all_goals go_ret
 all_goals exact ⟨rfl,HL.out _ (by simp [*]),cR_ _ _ _ _⟩
theorem lU_ {P:Program} {c:Code} {Q:Exit->Act->World->Prop} {a:Act} {w:World} (S:World->Prop) (hS:S w) (h:∀ w',S w'->Code.wp P c Q a w'):Code.wp P c Q a w:=h w hS
def alE_ (g:Nat) (A:Option Addr) (c:Nat) (l:List Nd) (acc:ByteArray) (r:Except Int (ByteArray × List Int)) (w:World) (e:Ending) (w':World):Prop :=
 e=.returned (.tuple #[])/\Below g w w'/\(∀ s ws,r=.ok (s,ws)->Lay g A c l ws (acc++s) w')/\(∀ k,r=.error k->hS_ g A c l k w')
structure sW_ (g h:Nat) (A:Option Addr) (c:Nat) (l:List Nd) (ws:List Int) (acc:ByteArray) (op:Int) (t:ByteArray) (n:Int) (w0 w:World):Prop where
 lay:Lay g A c l ws acc w
 nd:w.heap[h]?=some (.cells #[.int .i64 op,.string t,.int .i64 n] 190 (0,0))
 bel:Below g w0 w
 lt:g<h
theorem Lay.cells {g:Nat} {A:Option Addr} {c:Nat} {l:List Nd} {ws:List Int} {acc:ByteArray} {w:World} (h:Lay g A c l ws acc w) :
  w.cell? ⟨g,0,none⟩=some (.slice A l.length c)/\w.cell? ⟨g,2,none⟩=some (.string acc)/\w.cell? ⟨g,3,none⟩=some (.int .i64 0)/\w.frozen? ⟨g,2,none⟩=false/\w.frozen? ⟨g,3,none⟩=false:=by
 obtain ⟨WA,WC,h1,_⟩:=h.blk;refine ⟨?_, ?_, ?_,Lib.frozen_of_heap h1 2,Lib.frozen_of_heap h1 3⟩ <;> rw [Lib.cell_of_heap h1] <;> rfl
theorem hS_.cells {g:Nat} {A:Option Addr} {c:Nat} {l:List Nd} {e:Int} {w:World} (h:hS_ g A c l e w) :
  w.cell? ⟨g,0,none⟩=some (.slice A l.length c)/\w.cell? ⟨g,3,none⟩=some (.int .i64 e):=by
 obtain ⟨v1,v2,h1⟩:=h.blk;refine ⟨?_, ?_⟩ <;> rw [Lib.cell_of_heap h1] <;> rfl
theorem sW_.cells {g h:Nat} {A:Option Addr} {c:Nat} {l:List Nd} {ws:List Int} {acc:ByteArray} {op:Int} {t:ByteArray} {n:Int} {w0 w:World} (x:sW_ g h A c l ws acc op t n w0 w) :
  w.cell? ⟨h,0,none⟩=some (.int .i64 op)/\w.cell? ⟨h,1,none⟩=some (.string t)/\w.cell? ⟨h,2,none⟩=some (.int .i64 n):=by
 refine ⟨?_, ?_, ?_⟩ <;> rw [Lib.cell_of_heap x.nd] <;> rfl
theorem aoG_ {g:Nat} {A:Option Addr} {c:Nat} {l:List Nd} {k:Int} {w:World} (h:hS_ g A c l k w) {i:Nat} {v:Int} (hv:v=i) (hi:i<l.length) (dp:Int) :
  Calls Tryz.prog 168 #[.pointer (some ⟨g,0,none⟩),.int .i64 v,.int .i64 dp] w fun e w'=>e=.returned (.tuple #[])/\hS_ g A c l k w'/\Below w.heap.size w w':=by
 subst hv;have hm:=h.nds.2.1;unfold maxLen at hm;have hgl:=h.lt;obtain ⟨c0,c3⟩:=h.cells;obtain ⟨b,off,op,t,n,rfl,hb,hnd,hts,d1,d2,d3⟩:=h.nds.node (Below.refl _ _) hi;have hk:(k != 0)=true:=by simpa using h.ne
 have HL:=hd_ h;clear h hnd;go_enter Tryz.func168,Tryz.ntmps168;go_wp2
 (try simp only [Exit.inBlock,Exit.then]);refine bodyPost_ret (results_none rfl _ _ _) rfl ?_
 exact ⟨rfl,HL.out.past aF_,aF_⟩
def anJ_ (g:Nat) (A:Option Addr) (c:Nat) (l:List Nd) (f:Nat):Prop :=
 ∀ (i dp:Nat) (v d:Int) (ws:List Int) (acc:ByteArray) (w:World),v=i->d=dp->i<l.length->l.length<=i+f->Lay g A c l ws acc w->Bits ws->dp+8*(a7_ l i).sz<=3200->acc.size+7000*(a7_ l i).sz<=3000000 ->
  Calls Tryz.prog 168 #[.pointer (some ⟨g,0,none⟩),.int .i64 v,.int .i64 d] w (alE_ g A c l acc ((a7_ l i).lay dp ws) w)
theorem dC11 (h:P:=by
 clear hh c0 c2 c3 f2 f3 d1 d2 d3;rintro wy hy;obtain ⟨c0,c2,c3,f2,f3⟩:=hy.lay.cells;obtain ⟨y0,y1,y2⟩:=hy.cells;have HY:=hd_ hy;clear hy
 go_region_with (go_at_call 197;refine (HBL.out _).mono ?_;rintro e w1 ⟨rfl,rfl⟩)
 all_goals
  go_wp2
  go_end0
  refine ⟨rfl,HY.out.bel.trans (Below.trans (by first|exact (Below.refl _ _).drew|exact Below.refl _ _) (by first|exact cR_ _ _ _ _|exact (cR_ _ _ _ _).drew)),fun s r he=>?_,fun k he=>by cases he⟩
  cases he
  rw [← ByteArray.append_assoc]
  first
   | exact (HY.out.lay.past (Below.refl _ _).drew).text _
   | exact (HY.out.lay.text _).past (Below.refl _ _).drew
   | exact HY.out.lay.text _):P:=h
theorem dC14 (h:P:=by
 rw [(hres dp).1];clear hres;go_enter Tryz.func168,Tryz.ntmps168;go_wp2_with (go_at_call 198;refine (abC_ (HL.out.past aF_)).mono ?_;rintro e w1 ⟨rfl,hE,hB⟩;obtain ⟨c0,c3⟩:=hE.cells;have HE:=hd_ hE;clear hE)
 (try simp only [Exit.inBlock,Exit.then]);refine bodyPost_ret (results_none rfl _ _ _) rfl ?_
 refine ⟨rfl,Below.trans aF_ hB,fun s r he=>?_,fun k' he=>?_⟩
 ·cases he
 ·cases he
  exact HE.out):P:=h
theorem aoF_ {l:List Nd} {x:D} (hd:Doc l x) (g:Nat) (A:Option Addr) (c:Nat):∀ f,anJ_ g A c l f:=by
 have h400:=hd.len;have HD:=hd_ hd;clear hd;intro f
 induction f with
 | zero=>intro i dp v d ws acc w hv hdp hi hf;omega
 | succ f ih =>
  intro i dp v d ws acc w hv hdp hi hf hl hbits hdz haz;subst hv hdp;have HI:=hd_ ih;clear ih;have hgl:=hl.lt;have hsp:=(a7_ l i).sz_pos;obtain ⟨c0,c2,c3,f2,f3⟩:=hl.cells;obtain ⟨b,off,op,t,n,rfl,hb,hnd,hts,d1,d2,d3⟩:=hl.nds.node (Below.refl _ _) hi;have hone:=HD.out.one _ (List.getElem_mem hi);rw [hnd] at hone;have HL:=hd_ hl;have HBT:=hd_ hbits;clear hl hbits;have k1:IntKind.i64.wrap ((i:Int)+1)=(i:Int)+1:=IntWalk.i64_in _ om_;have hgs:g<=w.heap.size:=by omega
  rcases xU_ hone with ⟨t',he,ht⟩|he|he|he|he|he|⟨n',hn',he⟩|he|he <;> cases he <;> clear hone
  case succ.inl.refl =>
   have hres:(a7_ l i).lay dp ws=.ok (t,ws):=by rw [HD.out.lay0 hi hnd rfl];rfl
   rw [hres];have hcat:∀ w',(Op.stringOp .add acc t).run Tryz.prog w'=.ok (.string (acc++t)) w':=fun w'=>run_string_add_sum w' acc t om_
   clear hnd hres;go_enter Tryz.func168,Tryz.ntmps168;go_wp2_with fail;obtain ⟨h,hh⟩:∃ h,h=w.heap.size:=⟨_,rfl⟩;rw [← hh];refine lU_ (fun wy=>sW_ g h (some ⟨b,off,none⟩) c l ws acc 1 t 0 w wy) ⟨HL.out.past aF_,aG_ hh.symm,aF_,by omega⟩ ?_;clear hh c0 c2 c3 f2 f3 d1 d2 d3;rintro wy hy;obtain ⟨c0,c2,c3,f2,f3⟩:=hy.lay.cells;obtain ⟨y0,y1,y2⟩:=hy.cells;have HY:=hd_ hy;clear hy;go_region
   all_goals
    go_wp2
    go_end0
    refine ⟨rfl,HY.out.bel.trans (Below.trans (by first|exact (Below.refl _ _).drew|exact Below.refl _ _) (by first|exact cR_ _ _ _ _|exact (cR_ _ _ _ _).drew)),fun s r he=>?_,fun k he=>by cases he⟩
    cases he
    first
     | exact (HY.out.lay.past (Below.refl _ _).drew).text _
     | exact (HY.out.lay.text _).past (Below.refl _ _).drew
     | exact HY.out.lay.text _
  case succ.inr.inl.refl =>
   have hres:(a7_ l i).lay dp ws=.ok (⟨#[10]⟩++bO_ dp,ws):=by rw [HD.out.lay0 hi hnd rfl];rfl
   rw [hres];have HBL:=hd_ (fun w'=>ab7_ dp om_ w');have hbz:=o7_ dp;generalize bO_ dp=BL at *;have hcat0:∀ w',(Op.stringOp .add acc ⟨#[10]⟩).run Tryz.prog w'=.ok (.string (acc++⟨#[10]⟩)) w':=fun w'=>run_string_add_sum w' acc ⟨#[10]⟩ (by show acc.size+1<=_;omega)
   have hcat:∀ w',(Op.stringOp .add (acc++⟨#[10]⟩) BL).run Tryz.prog w'=.ok (.string (acc++⟨#[10]⟩++BL)) w':=fun w'=>run_string_add_sum w' _ BL (by rw [ByteArray.size_append];show acc.size+1+BL.size<=_;omega)
   clear hnd hres;go_enter Tryz.func168,Tryz.ntmps168;go_wp2_with fail;obtain ⟨h,hh⟩:∃ h,h=w.heap.size:=⟨_,rfl⟩;rw [← hh];refine lU_ (fun wy=>sW_ g h (some ⟨b,off,none⟩) c l ws acc 2 .empty 0 w wy) ⟨HL.out.past aF_,aG_ hh.symm,aF_,by omega⟩ ?_;exact dC11
  case succ.inr.inr.inl.refl =>
   have hres:(a7_ l i).lay dp ws=.ok (⟨#[10]⟩++bO_ dp,ws):=by rw [HD.out.lay0 hi hnd rfl];rfl
   rw [hres];have HBL:=hd_ (fun w'=>ab7_ dp om_ w');have hbz:=o7_ dp;generalize bO_ dp=BL at *;have hcat0:∀ w',(Op.stringOp .add acc ⟨#[10]⟩).run Tryz.prog w'=.ok (.string (acc++⟨#[10]⟩)) w':=fun w'=>run_string_add_sum w' acc ⟨#[10]⟩ (by show acc.size+1<=_;omega)
   have hcat:∀ w',(Op.stringOp .add (acc++⟨#[10]⟩) BL).run Tryz.prog w'=.ok (.string (acc++⟨#[10]⟩++BL)) w':=fun w'=>run_string_add_sum w' _ BL (by rw [ByteArray.size_append];show acc.size+1+BL.size<=_;omega)
   clear hnd hres;go_enter Tryz.func168,Tryz.ntmps168;go_wp2_with fail;obtain ⟨h,hh⟩:∃ h,h=w.heap.size:=⟨_,rfl⟩;rw [← hh];refine lU_ (fun wy=>sW_ g h (some ⟨b,off,none⟩) c l ws acc 3 .empty 0 w wy) ⟨HL.out.past aF_,aG_ hh.symm,aF_,by omega⟩ ?_;exact dC11
  case succ.inr.inr.inr.inl.refl =>
   have hres:(a7_ l i).lay dp ws=.ok (⟨#[10]⟩++bO_ dp,ws):=by rw [HD.out.lay0 hi hnd rfl];rfl
   rw [hres];have HBL:=hd_ (fun w'=>ab7_ dp om_ w');have hbz:=o7_ dp;generalize bO_ dp=BL at *;have hcat0:∀ w',(Op.stringOp .add acc ⟨#[10]⟩).run Tryz.prog w'=.ok (.string (acc++⟨#[10]⟩)) w':=fun w'=>run_string_add_sum w' acc ⟨#[10]⟩ (by show acc.size+1<=_;omega)
   have hcat:∀ w',(Op.stringOp .add (acc++⟨#[10]⟩) BL).run Tryz.prog w'=.ok (.string (acc++⟨#[10]⟩++BL)) w':=fun w'=>run_string_add_sum w' _ BL (by rw [ByteArray.size_append];show acc.size+1+BL.size<=_;omega)
   clear hnd hres;go_enter Tryz.func168,Tryz.ntmps168;go_wp2_with fail;obtain ⟨h,hh⟩:∃ h,h=w.heap.size:=⟨_,rfl⟩;rw [← hh];refine lU_ (fun wy=>sW_ g h (some ⟨b,off,none⟩) c l ws acc 4 .empty 0 w wy) ⟨HL.out.past aF_,aG_ hh.symm,aF_,by omega⟩ ?_;exact dC11
  case succ.inr.inr.inr.inr.inl.refl =>
   have hres:(a7_ l i).lay dp ws=.ok (.empty,ws):=by rw [HD.out.lay0 hi hnd rfl];rfl
   rw [hres];clear hnd hres;go_enter Tryz.func168,Tryz.ntmps168;go_wp2
   go_end0
   refine ⟨rfl,aF_,fun s r he=>?_,fun k he=>by cases he⟩
   cases he
   rw [ByteArray.append_empty];exact HL.out.past aF_
  case succ.inr.inr.inr.inr.inr.inr.inl.refl =>
   obtain ⟨hi1,hsz,hres⟩:=HD.out.lay7 hi hnd;rw [hres];have hc:(dp:Int)+(n':Int)=((dp+n':Nat):Int):=by omega
   have k2:IntKind.i64.wrap ((dp:Int)+(n':Int))=(dp:Int)+(n':Int):=IntWalk.i64_in _ om_;rw [hc];clear hnd hres hc;go_enter Tryz.func168,Tryz.ntmps168;go_wp2_with (go_at_call 168;refine (HI.out (i+1) (dp+n') _ _ ws acc _ om_ om_ hi1 om_ (HL.out.past aF_) HBT.out om_ om_).mono ?_;rintro e w1 ⟨rfl,hB,h1,h2⟩)
   go_end0
   exact ⟨rfl,Below.trans aF_ hB,h1,h2⟩
  case succ.inr.inr.inr.inr.inr.inl.refl =>
   obtain ⟨q,hi1,hq,hiq,hqe,hsz,hres⟩:=HD.out.lay6 hi hnd;rw [hres];have hce:=fun w' hw=>uC_ HD.out (some ⟨b,off,none⟩) c w' hw (i:=i+1) (v:=(i:Int)+1) om_ hi1
   rw [hqe] at hce;have HCE:=hd_ hce;clear hce hqe;have hls:=fun (s:ByteArray) (r:List Int) h hb=>HD.out.lay_sz hi1 (dp:=dp) (ws:=ws) (r:=r) (s:=s) h hb
   have hlb:=fun (s:ByteArray) (r:List Int) h hb=>Doc.lay_bits (l:=l) (i:=i+1) (dp:=dp) (ws:=ws) (r:=r) (s:=s) h hb
   have HI1:=hd_ (HI.out (i+1) dp ((i:Int)+1) dp ws acc);have HI2:=hd_ (fun ws=>HI.out q dp (q:Int) dp ws);generalize (a7_ l (i+1)).lay dp ws=r1 at *
   cases r1 with
   | error k =>
    clear hls hlb hnd;go_enter Tryz.func168,Tryz.ntmps168;go_wp2_with (first
     | (go_at_call 168;(fail_if_success have hz:=HE1);refine (HI1.out _ om_ rfl hi1 om_ (HL.out.past aF_) HBT.out om_ om_).mono ?_;rintro e w1 ⟨rfl,hB,h1,h2⟩;have HE1:=hd_ (h2 k rfl);obtain ⟨c0,c3⟩:=HE1.out.cells;clear h1 h2)
     | (go_at_call 194;refine (HCE.out _ (HE1.out.nds.upto (by have:=HE1.out.lt;omega))).mono ?_;rintro e w2 ⟨rfl,rfl⟩)
     | (go_at_call 168;refine (aoG_ HE1.out (i:=q) rfl hq _).mono ?_;rintro e w3 ⟨rfl,h3,hB3⟩))
    go_end0
    refine ⟨rfl,(Below.trans aF_ hB).trans (hB3.mono (by have:=HE1.out.lt;omega)),fun s r he=>?_,fun k' he=>?_⟩
    ·cases he
    ·cases he
     exact h3
   | ok p =>
    obtain ⟨s1,ws1⟩:=p;have hs1:=hls s1 ws1 rfl om_;obtain ⟨hb1,hl1⟩:=hlb s1 ws1 rfl HBT.out;have hsa:=ByteArray.size_append (a:=acc) (b:=s1);have HI2':=hd_ (HI2.out ws1 (acc++s1));have HLS:Hid (∀ s r,(a7_ l q).lay dp ws1=.ok (s,r)->mB_ (.ok (s1,ws1)) ((a7_ l q).lay dp)=.ok (s1++s,r)):=hd_ (fun s r h=>by simp [mB_,h]);have HLE:Hid (∀ k,(a7_ l q).lay dp ws1=.error k->mB_ (.ok (s1,ws1)) ((a7_ l q).lay dp)=.error k):=hd_ (fun k h=>by simp [mB_,h]);clear hls hlb hnd HI2;generalize mB_ (.ok (s1,ws1)) ((a7_ l q).lay dp)=rr at *;generalize (a7_ l q).lay dp ws1=r2 at *;go_enter Tryz.func168,Tryz.ntmps168;go_wp2_with (first
     | (go_at_call 168;(fail_if_success have hz:=HE1);refine (HI1.out _ om_ rfl hi1 om_ (HL.out.past aF_) HBT.out om_ om_).mono ?_;rintro e w1 ⟨rfl,hB,h1,h2⟩;have HE1:=hd_ (h1 s1 ws1 rfl);obtain ⟨c0,-,c3,-,-⟩:=HE1.out.cells;clear h1 h2)
     | (go_at_call 194;refine (HCE.out _ (HE1.out.nds.upto (by have:=HE1.out.lt;omega))).mono ?_;rintro e w2 ⟨rfl,rfl⟩)
     | (go_at_call 168;refine (HI2'.out _ (by trivial) (by trivial) hq om_ HE1.out hb1 om_ om_).mono ?_;rintro e w3 ⟨rfl,hB3,h3,h4⟩))
    go_end0
    refine ⟨rfl,(Below.trans aF_ hB).trans hB3,fun s r he=>?_,fun k' he=>?_⟩
    ·cases r2 with
     | error k=>rw [HLE.out k rfl] at he;cases he
     | ok p2 =>
      obtain ⟨s2,ws2⟩:=p2;rw [HLS.out s2 ws2 rfl] at he
      cases he
      rw [← ByteArray.append_assoc];exact h3 _ _ rfl
    ·cases r2 with
     | error k =>
      rw [HLE.out k rfl] at he
      cases he
      exact h4 _ rfl
     | ok p2 =>
      obtain ⟨s2,ws2⟩:=p2;rw [HLS.out s2 ws2 rfl] at he
      cases he
  case succ.inr.inr.inr.inr.inr.inr.inr.inr.refl =>
   obtain ⟨q,hi1,hq,hiq,hqe,hsz,hres⟩:=HD.out.lay9 hi hnd;have hce:=fun w' hw=>uC_ HD.out (some ⟨b,off,none⟩) c w' hw (i:=i+1) (v:=(i:Int)+1) om_ hi1
   rw [hqe] at hce;have HCE:=hd_ hce;clear hce hqe hnd
   cases ws with
   | nil =>
    exact dC14
   | cons v ws =>
    have hbt:Bits ws:=fun z hz=>HBT.out z (by simp [hz])
    have HBT2:=hd_ hbt;have h01:v=0∨v=1:=HBT.out v si_
    rcases h01 with rfl|rfl
    ·rw [(hres dp).2.1];clear hres hbt;go_enter Tryz.func168,Tryz.ntmps168;go_wp2_with (first
      | (go_at_call 198;refine (z7_ (HL.out.past aF_)).mono ?_;rintro e w1 ⟨rfl,hE,hB⟩;obtain ⟨c0,-,c3,-,-⟩:=hE.cells;have HE:=hd_ hE;clear hE)
      | (go_at_call 168;refine (HI.out (i+1) dp _ _ ws acc _ om_ (by first|trivial|rfl) hi1 om_ HE.out HBT2.out om_ om_).mono ?_;rintro e w3 ⟨rfl,hB3,h3,h4⟩))
     go_end0
     exact ⟨rfl,(Below.trans aF_ hB).trans hB3,h3,h4⟩
    ·rw [(hres dp).2.2];clear hres hbt;go_enter Tryz.func168,Tryz.ntmps168;go_wp2_with (first
      | (go_at_call 198;refine (z7_ (HL.out.past aF_)).mono ?_;rintro e w1 ⟨rfl,hE,hB⟩;obtain ⟨c0,-,c3,-,-⟩:=hE.cells;have HE:=hd_ hE;clear hE)
      | (go_at_call 194;refine (HCE.out _ (HE.out.nds.upto (by have:=HE.out.lt;omega))).mono ?_;rintro e w2 ⟨rfl,rfl⟩)
      | (go_at_call 168;refine (HI.out q dp _ _ ws acc _ (by first|trivial|rfl) (by first|trivial|rfl) hq om_ HE.out HBT2.out om_ om_).mono ?_;rintro e w3 ⟨rfl,hB3,h3,h4⟩))
     go_end0
     exact ⟨rfl,(Below.trans aF_ hB).trans hB3,h3,h4⟩
  case succ.inr.inr.inr.inr.inr.inr.inr.inl.refl =>
   obtain ⟨hi1,hsz,hres⟩:=HD.out.lay8 hi hnd;have HFO:=hd_ (fun w' h=>rX_ HD.out (some ⟨b,off,none⟩) c l.length (i+1) ((i:Int)+1) w' h om_ hi1 om_);have hfz:=uF_ (HD.out.good_at hi1);clear hnd
   cases ws with
   | nil =>
    exact dC14
   | cons v ws =>
    have hbt:Bits ws:=fun z hz=>HBT.out z (by simp [hz])
    have HBT2:=hd_ hbt;have h01:v=0∨v=1:=HBT.out v si_
    rcases h01 with rfl|rfl
    ·rw [(hres dp).2.2];clear hres hbt;have hla:aP_ l (i+1)=g2_ (a7_ l (i+1)).flat:=rfl;rw [hla] at HFO;clear hla;generalize (a7_ l (i+1)).flat=fl at *
     cases fl with
     | some s =>
      have hsl:=hfz s rfl;have hcat:∀ w',(Op.stringOp .add acc s).run Tryz.prog w'=.ok (.string (acc++s)) w':=fun w'=>run_string_add_sum w' acc s om_
      simp only [g2_] at HFO ⊢;clear hfz;go_enter Tryz.func168,Tryz.ntmps168;go_wp2_with (first
       | (go_at_call 198;refine (z7_ (HL.out.past aF_)).mono ?_;rintro e w1 ⟨rfl,hE,hB⟩;obtain ⟨c0,-,c3,-,-⟩:=hE.cells;have HE:=hd_ hE;clear hE)
       | (go_at_call 195;refine (HFO.out _ (HE.out.nds.upto (by have:=HE.out.lt;omega))).mono ?_;rintro e w2 ⟨rfl,hB2⟩;have hF:=HE.out.past hB2;obtain ⟨e0,e2,e3,e4,e5⟩:=hF.cells;have HF:=hd_ hF;clear hF))
      go_end0
      refine ⟨rfl,((Below.trans aF_ hB).trans (hB2.mono (by have:=HE.out.lt;omega))).trans (cR_ _ _ _ _),fun s r he=>?_,fun k' he=>?_⟩
      ·cases he
       exact HF.out.text _
      ·cases he
     | none =>
      have hcat:∀ w',(Op.stringOp .add acc .empty).run Tryz.prog w'=.ok (.string (acc++.empty)) w':=fun w'=>run_string_add_sum w' acc .empty (by show acc.size+0<=_;omega)
      simp only [g2_] at HFO ⊢;clear hfz;go_enter Tryz.func168,Tryz.ntmps168;go_wp2_with (first
       | (go_at_call 198;refine (z7_ (HL.out.past aF_)).mono ?_;rintro e w1 ⟨rfl,hE,hB⟩;obtain ⟨c0,-,c3,-,-⟩:=hE.cells;have HE:=hd_ hE;clear hE)
       | (go_at_call 195;refine (HFO.out _ (HE.out.nds.upto (by have:=HE.out.lt;omega))).mono ?_;rintro e w2 ⟨rfl,hB2⟩;have hF:=HE.out.past hB2;obtain ⟨e0,e2,e3,e4,e5⟩:=hF.cells;have HF:=hd_ hF;clear hF))
      go_end0
      refine ⟨rfl,(((Below.trans aF_ hB).trans (hB2.mono (by have:=HE.out.lt;omega))).trans (cR_ _ _ _ _)).trans (cR_ _ _ _ _),fun s r he=>?_,fun k' he=>?_⟩
      ·cases he
      ·cases he
       exact (HF.out.fault de_).text _
    ·rw [(hres dp).2.1];clear hres hbt hfz;go_enter Tryz.func168,Tryz.ntmps168;go_wp2_with (first
      | (go_at_call 198;refine (z7_ (HL.out.past aF_)).mono ?_;rintro e w1 ⟨rfl,hE,hB⟩;obtain ⟨c0,-,c3,-,-⟩:=hE.cells;have HE:=hd_ hE;clear hE)
      | (go_at_call 168;refine (HI.out (i+1) dp _ _ ws acc _ om_ (by first|trivial|rfl) hi1 om_ HE.out HBT2.out om_ om_).mono ?_;rintro e w3 ⟨rfl,hB3,h3,h4⟩))
     (try simp only [Exit.inBlock,Exit.then]);first|refine bodyPost_ret (results_none rfl _ _ _) rfl ?_|refine bodyPost_end (results_none rfl _ _ _) rfl ?_
     exact ⟨rfl,(Below.trans aF_ hB).trans hB3,h3,h4⟩
theorem tV_ {ws:List Int} {k:Nat} (ha:e0_ (ws.take k)=false) (hk:k<ws.length) {v:Int} (hv:ws[k]=v) (h:v=0∨v=1):e0_ (ws.take (k+1))=false:=by
 unfold e0_ at ha ⊢;rw [List.take_succ_eq_append_getElem hk,List.any_append,ha,hv]
 rcases h with rfl|rfl <;> rfl
theorem ahQ_ {ws:List Int} {k:Nat} (hk:k<ws.length) {v:Int} (hv:ws[k]=v) (h:v≠0/\v≠1):e0_ ws=true:=by
 unfold e0_;rw [List.any_eq_true];exact ⟨ws[k],List.getElem_mem hk,by rw [hv];exact decide_eq_true h⟩
theorem ahR_ {ws:List Int} (h:e0_ ws=false):Bits ws:=by
 intro c hc;unfold e0_ at h;rw [List.any_eq_false] at h;have:=h c hc;simp at this
 by_cases h0:c=0
 ·exact .inl h0
 ·exact .inr (this h0)
def j5_ (x:D) (ws:List Int):ByteArray × Int:=if e0_ ws=true then (.empty,1) else match wC_ x ws with
 | .ok s=>(s,0)
 | .error k=>(.empty,k)
theorem Lay.new {A:Option Addr} {c:Nat} {l:List Nd} {M:Option Addr} {cm:Nat} {ws:List Int} {w:World} (hl:Nds w w.heap.size A l) (hM:dD_ w w.heap.size M ws) (hcm:ws.length<=cm) :
  Lay w.heap.size A c l ws .empty (w.alloc (.cells #[.slice A l.length c,.slice M ws.length cm,.string .empty,.int .i64 0] 265)) :=
 ⟨⟨M,cm,aG_ rfl,hM.under (aE_) (Nat.le_refl _),hcm⟩,hl.under_ (aE_) (Nat.le_refl _)⟩
theorem dC15 (h:P:=by
 go_wp2
 go_round
 case rel=>exact ⟨k+1,by omega,by go_num,HG.out⟩
 case measure=>exact me_):P:=h
theorem adE_ {l:List Nd} {x:D} (hd:Doc l x) (A:Option Addr) (n c:Nat) (hn:l.length=n) (ws:List Int) (M:Option Addr) (m cm:Nat) (hm:ws.length=m) (hcm:m<=cm) (w:World) (hl:Nds w w.heap.size A l) (hM:dD_ w w.heap.size M ws) :
  Calls Tryz.prog 104 #[.slice A n c,.slice M m cm] w (Ret w (.tuple #[.string (j5_ x ws).1,.int .i64 (j5_ x ws).2])):=by
 subst hn hm;have hm63:=hM.2;unfold maxLen at hm63;have h400:=hd.len;have hp0:=hd.pos;have hs0:(a7_ l 0).sz=l.length:=by rw [hd.root,hd.szx]
 have hrt:=hd.root;have HM:=hd_ hM;have HN:=hd_ hl;have HD:=hd_ hd;obtain ⟨r,hr⟩:∃ r,j5_ x ws=r:=⟨_,rfl⟩;have HR:=hd_ hr;rw [hr];clear hl hM hd hr;go_enter Tryz.func104,Tryz.ntmps104;go_wp2_with fail
 go_loop [6] (fun i=>∃ k:Nat,k<=ws.length/\i=.int .i64 k/\e0_ (ws.take k)=false) (fun i=>ws.length-(intOf i).toNat)
 case atStart=>exact ⟨0,by omega,rfl,rfl⟩
 case round =>
  obtain ⟨k,hk,rfl,ha⟩:=hrel;have HA:=hd_ ha;clear ha
  by_cases hlt:k<ws.length
  ·obtain ⟨b,off,v,rfl,hb,hv,hcell⟩:=HM.out.one (Below.refl _ _) hlt;have HV:=hd_ hv;clear hv
   by_cases h0:v=0
   ·subst h0;have HG:=hd_ (tV_ HA.out hlt HV.out (.inl rfl));exact dC15
   ·by_cases h1:v=1
    ·subst h1;have HG:=hd_ (tV_ HA.out hlt HV.out (.inr rfl));exact dC15
    ·have k1:(v != 0)=true:=by simpa using h0
     have k2:(v != 1)=true:=by simpa using h1
     have HBY:Hid (r=(.empty,1)):=hd_ (by rw [← HR.out,j5_,if_pos (ahQ_ hlt HV.out ⟨h0,h1⟩)]);clear h0 h1;go_wp2;go_ret2;exact ⟨by rw [HBY.out];rfl,aF_⟩
  ·have hbb:e0_ ws=false:=by
    have:=HA.out
    rwa [List.take_of_length_le om_] at this
   have HBT:=hd_ (ahR_ hbb);have hr2:r=(match wC_ x ws with|.ok s=>(s,0)|.error k=>(.empty,k)):=by
    rw [← HR.out,j5_,if_neg (by rw [hbb];decide)]
   have hla:=fun (g:Nat)=>aoF_ HD.out g A c l.length
   have HLA:=hd_ hla;have HNE:=hd_ (Lay.new (c:=c) HN.out HM.out (cm:=cm));unfold wC_ at hr2;rw [← hrt] at hr2;have HLC:Hid (∀ w':World,Lay w.heap.size A c l ws .empty w'->Calls Tryz.prog 168 #[.pointer (some ⟨w.heap.size,0,none⟩),.int .i64 0,.int .i64 0] w' (alE_ w.heap.size A c l .empty ((a7_ l 0).lay 0 ws) w')):=hd_ (fun w' h=>HLA.out w.heap.size 0 0 0 0 ws .empty w' rfl rfl hp0 om_ h HBT.out om_ (by show 0+_<=_;omega));generalize (a7_ l 0).lay 0 ws=q at *;clear hbb hla HLA
   cases q with
   | error k =>
    simp only at hr2;have HR2:=hd_ hr2;clear hr2;go_wp2_with (go_at_call 168;refine (HLC.out _ (HNE.out hcm)).mono ?_;rintro e w1 ⟨rfl,hB,h1,h2⟩;have HE1:=hd_ (h2 k rfl);obtain ⟨c0,c3⟩:=HE1.out.cells;have hk0:(k != 0)=true:=(by simpa using HE1.out.ne);have hk1:(k==0)=false:=(by simpa using HE1.out.ne);clear h1 h2);go_region
    all_goals
     go_wp2;go_ret2;exact ⟨by rw [HR2.out];rfl,((aE_).trans hB).trans (below_drewN (Below.refl _ _) 1)⟩
   | ok p =>
    obtain ⟨s,rest⟩:=p
    cases rest with
    | nil =>
     simp only at hr2;have HR2:=hd_ hr2;clear hr2;go_wp2_with (go_at_call 168;refine (HLC.out _ (HNE.out hcm)).mono ?_;rintro e w1 ⟨rfl,hB,h1,h2⟩;have HE1:=hd_ (h1 s [] rfl);obtain ⟨WA,WC,hk1,-,-⟩:=HE1.out.blk;obtain ⟨c0,c2,c3,-,-⟩:=HE1.out.cells;have c1:w1.cell? ⟨w.heap.size,1,none⟩=some (.slice WA 0 WC):=(by rw [Lib.cell_of_heap hk1];rfl);clear h1 h2 hk1);go_ret2;exact ⟨by rw [HR2.out];rfl,(aE_).trans hB⟩
    | cons v rest =>
     simp only at hr2;have HR2:=hd_ hr2;clear hr2;go_wp2_with (go_at_call 168;refine (HLC.out _ (HNE.out hcm)).mono ?_;rintro e w1 ⟨rfl,hB,h1,h2⟩;have HE1:=hd_ (h1 s (v::rest) rfl);obtain ⟨WA,WC,hk1,hk2,-⟩:=HE1.out.blk;obtain ⟨c0,c2,c3,-,f3⟩:=HE1.out.cells;have hz:=hk2.2;unfold maxLen at hz;simp only [List.length_cons] at hz;have c1:w1.cell? ⟨w.heap.size,1,none⟩=some (.slice WA (rest.length+1) WC):=(by rw [Lib.cell_of_heap hk1];rfl);clear h1 h2 hk1 hk2);have hE3:=HE1.out.fault (e:=2) de_;obtain ⟨e0,e3⟩:=hE3.cells;clear hE3;go_region
     all_goals
      go_wp2;go_ret2;exact ⟨by rw [HR2.out];rfl,(((aE_).trans hB).trans (cR_ _ _ _ _)).trans (below_drewN (Below.refl _ _) 1)⟩
theorem bM_ {w:World} {g j:Nat} {cs:Array Value} {T:TypeId} {fr:Nat × Nat} (h:w.heap[g]?=some (.cells cs T fr)):w.cell? ⟨g,j,none⟩=cs[j]?:=cell_of_row w g j cs T fr h
theorem dQ_ {w:World} {g j:Nat} {cs:Array Value} {T:TypeId} (h:w.heap[g]?=some (.cells cs T (0,0))):w.frozen? ⟨g,j,none⟩=false:=by simp [World.frozen?,h]
theorem u0_ {w:World} {b:Nat} {x y v:Value} {T:TypeId} {fr:Nat × Nat} (h:w.heap[b]?=some (.cells #[x,y] T fr)):(w.setCell ⟨b,1,none⟩ v).heap[b]?=some (.cells #[x,v] T fr):=by
 simp [World.setCell,Array.getElem?_modify,h]
theorem tZ_ {w:World} {b:Nat} {x y v:Value} {T:TypeId} {fr:Nat × Nat} (h:w.heap[b]?=some (.cells #[x,y] T fr)):(w.setCell ⟨b,0,none⟩ v).heap[b]?=some (.cells #[v,y] T fr):=by
 simp [World.setCell,Array.getElem?_modify,h]
theorem rM_ {w:World} {g:Nat} {o:Obj} {p:Addr} {v:Value} (h:w.heap[g]?=some o) (hne:g≠p.block):(w.setCell p v).heap[g]?=some o:=(Below.heap_setCell _ _ _ _ hne).trans h
theorem zX_ (a b:Nat × Nat) {r:Bool} (h:cW_ a b=r) (w:World) :
  Calls Tryz.prog 106 #[.agg #[.int .i64 (a.1:Nat),.int .i64 (a.2:Nat)],.agg #[.int .i64 (b.1:Nat),.int .i64 (b.2:Nat)]] w (Ret w (.bool r)):=by
 obtain ⟨a1,a2⟩:=a;obtain ⟨b1,b2⟩:=b;simp only [cW_] at h ⊢;subst h;have he:((a1:Int)==(b1:Int))=decide (a1=b1):=by rw [Bool.eq_iff_iff];simp;omega
 by_cases h2:a1=b1
 ·subst h2;have k3:decide (a1<a1∨a1=a1/\a2<b2)=decide (a2<b2):=by congr 1;simp
  rw [k3];have k1:((a1:Int) != (a1:Int))=false:=by simp
  clear k3 he
  by_cases h3:a2<b2
  ·have k4:decide (a2<b2)=true:=decide_eq_true h3;rw [k4];go_enter Tryz.func106,Tryz.ntmps106;go_wp2;go_ret;exact ⟨rfl,aF_⟩
  ·have k4:decide (a2<b2)=false:=decide_eq_false h3;rw [k4];go_enter Tryz.func106,Tryz.ntmps106;go_wp2;go_ret;exact ⟨rfl,aF_⟩
 ·have k2:((a1:Int)==(b1:Int))=false:=by rw [he];exact decide_eq_false h2
  have k1:((a1:Int) != (b1:Int))=true:=by simp;omega
  have k3:decide (a1<b1∨a1=b1/\a2<b2)=decide (a1<b1):=by congr 1;simp [h2]
  rw [k3];clear k3 he
  by_cases h3:a1<b1
  ·have k4:decide (a1<b1)=true:=decide_eq_true h3;rw [k4];go_enter Tryz.func106,Tryz.ntmps106;go_wp2;go_ret;exact ⟨rfl,aF_⟩
  ·have k4:decide (a1<b1)=false:=decide_eq_false h3;rw [k4];go_enter Tryz.func106,Tryz.ntmps106;go_wp2;go_ret;exact ⟨rfl,aF_⟩
theorem ahY_ (W col:Nat) (s:List UInt8) (c:UInt8):cst W col (s++[c])=((ovr W col s+if c=10 then 0 else if W<aK_ col s+1 then 1 else 0),lns s+if c=10 then 1 else 0):=by
 rw [pI_];simp only [cst,dW_,ovr,lns]
 by_cases h:c=10 <;> simp [h]
theorem ahX_ (col:Nat) (s:List UInt8) (c:UInt8):aK_ col (s++[c])=if c=10 then 0 else aK_ col s+1:=by
 rw [o9_];simp only [aK_]
theorem ah8_ {s:ByteArray} {k:Nat} (hk:k<s.size):s.data.toList.take (k+1)=s.data.toList.take k++[s[k]]:=by
 rw [List.take_succ_eq_append_getElem (by simpa using hk)];rfl
theorem abD_ (s:ByteArray) (hs:s.size<=100000000) (W:Nat) (w:World) :
  Calls Tryz.prog 105 #[.string s,.int .i64 (W:Nat)] w (Ret w (.agg #[.int .i64 ((cst W 0 s.data.toList).1:Nat),.int .i64 ((cst W 0 s.data.toList).2:Nat)])):=by
 go_enter Tryz.func105,Tryz.ntmps105;go_wp2;go_loopw [6,7] (fun s6 s7 wr=>∃ k:Nat,k<=s.size/\s7=.int .i64 k/\s6=.int .i64 (aK_ 0 (s.data.toList.take k):Nat)/\wr.heap[w.heap.size]?=some (.cells #[.int .i64 0,.int .i64 0] 113 (0,0))/\wr.heap[w.heap.size+1]?=some (.cells #[.int .i64 (ovr W 0 (s.data.toList.take k):Nat),.int .i64 (lns (s.data.toList.take k):Nat)] 113 (0,0))/\Below w.heap.size w wr) (fun _ s7 _=>s.size-(intOf s7).toNat)
 case atStart =>
  refine ⟨0,Nat.zero_le _,rfl,rfl,(Below.heap_alloc _ _ _ si_).trans (aG_ rfl),aG_ si_,aF_⟩
 case round =>
  obtain ⟨k,hk,rfl,rfl,h4,h5,hB⟩:=hrel;have c0:=bM_ (j:=0) h5;have c1:=bM_ (j:=1) h5;have f0:=dQ_ (j:=0) h5;have f1:=dQ_ (j:=1) h5;simp at c0 c1;have hco:=iQ_ (s.data.toList.take k) 0;have hov:=jM_ W (s.data.toList.take k) 0;have hln:=oJ_ (s.data.toList.take k);have htl:(s.data.toList.take k).length<=k:=List.length_take_le _ _;have HB:=hd_ hB;have H4:=hd_ h4;have H5:=hd_ h5;clear hB h4 h5
  by_cases hlt:k<s.size
  ·have hts:=ah8_ hlt;have hcs:=ahY_ W 0 (s.data.toList.take k) s[k];have hcl:=ahX_ 0 (s.data.toList.take k) s[k];rw [← hts] at hcs hcl;simp only [cst,Prod.mk.injEq] at hcs;obtain ⟨ho,hl⟩:=hcs;have HO:=hd_ ho;have HL:=hd_ hl;have HC:=hd_ hcl;clear ho hl hcl hts
   by_cases hc:s[k]=10
   ·have q5:s[k].toNat=10:=by rw [hc];rfl
    have q6:decide (s[k].toNat=10)=true:=decide_eq_true q5;have q7:decide ((s[k].toNat:Int)=10)=true:=decide_eq_true om_;have e1:(ovr W 0 (s.data.toList.take (k+1)):Int)=(ovr W 0 (s.data.toList.take k):Int):=by rw [HO.out,if_pos hc];rfl
    have e2:(lns (s.data.toList.take (k+1)):Int)=(lns (s.data.toList.take k):Int)+1:=by rw [HL.out,if_pos hc];rfl
    have e3:aK_ 0 (s.data.toList.take (k+1))=0:=by rw [HC.out,if_pos hc]
    have E1:=hd_ e1;have E2:=hd_ e2;have E3:=hd_ e3;clear e1 e2 e3 hc;go_wp2_with fail;go_roundw
    case measure=>exact me_
    case rel =>
     refine ⟨k+1,by omega,by go_num,by rw [E3.out];rfl,rM_ H4.out si_, ?_,HB.out.setCell (p:=⟨w.heap.size+1,1,none⟩) si_ _⟩;rw [E1.out,E2.out];exact u0_ H5.out
   ·have q5:s[k].toNat≠10:=fun h=>hc (UInt8.toNat_inj.1 h)
    have q6:decide (s[k].toNat=10)=false:=decide_eq_false q5;have q7:decide ((s[k].toNat:Int)=10)=false:=decide_eq_false om_;have e2:(lns (s.data.toList.take (k+1)):Int)=(lns (s.data.toList.take k):Int):=by rw [HL.out,if_neg hc];rfl
    have e3:(aK_ 0 (s.data.toList.take (k+1)):Int)=(aK_ 0 (s.data.toList.take k):Int)+1:=by rw [HC.out,if_neg hc];rfl
    have E2:=hd_ e2;have E3:=hd_ e3
    by_cases hw:W<aK_ 0 (s.data.toList.take k)+1
    ·have e1:(ovr W 0 (s.data.toList.take (k+1)):Int)=(ovr W 0 (s.data.toList.take k):Int)+1:=by rw [HO.out,if_neg hc,if_pos hw];rfl
     have E1:=hd_ e1;have q8:decide ((W:Int)<(aK_ 0 (s.data.toList.take k):Int)+1)=true:=decide_eq_true om_;clear e1 e2 e3 hc hw;go_wp2_with fail;go_roundw
     case measure=>exact me_
     case rel =>
      refine ⟨k+1,by omega,by go_num,by rw [E3.out],rM_ H4.out si_, ?_,HB.out.setCell (p:=⟨w.heap.size+1,0,none⟩) si_ _⟩;rw [E1.out,E2.out];exact tZ_ H5.out
    ·have e1:(ovr W 0 (s.data.toList.take (k+1)):Int)=(ovr W 0 (s.data.toList.take k):Int):=by rw [HO.out,if_neg hc,if_neg hw];rfl
     have E1:=hd_ e1;have q8:decide ((W:Int)<(aK_ 0 (s.data.toList.take k):Int)+1)=false:=decide_eq_false om_;clear e1 e2 e3 hc hw;go_wp2_with fail;go_roundw
     case measure=>exact me_
     case rel=>exact ⟨k+1,by omega,by go_num,by rw [E3.out],H4.out,by rw [E1.out,E2.out];exact H5.out,HB.out⟩
  ·have hkk:k=s.size:=by omega
   subst hkk;have hall:s.data.toList.take s.size=s.data.toList:=List.take_of_length_le si_;rw [hall] at c0 c1;have g0:=bM_ (j:=0) H4.out;have g1:=bM_ (j:=1) H4.out;have g2:=dQ_ (j:=0) H4.out;have g3:=dQ_ (j:=1) H4.out;simp at g0 g1;have b0:=u0_ (v:=.int .i64 (lns s.data.toList:Nat)) (tZ_ (v:=.int .i64 (ovr W 0 s.data.toList:Nat)) H4.out);have HB0:=hd_ b0;clear b0 hall;go_wp2;have b1:=bM_ (j:=0) HB0.out;have b2:=bM_ (j:=1) HB0.out;simp at b1 b2;simp [bodyPost,results,Tryz.results105,go_sem,b1,b2];exact ⟨rfl,(HB.out.setCell (p:=⟨w.heap.size,0,none⟩) (Nat.le_refl _) _).setCell (p:=⟨w.heap.size,1,none⟩) (Nat.le_refl _) _⟩
theorem vT_ {P:Program} {c:Code} {Q:Exit->Act->World->Prop} {a:Act} {w:World} (S:World->Prop) (hS:S w) (h:∀ w',S w'->Code.wp P c Q a w'):Code.wp P c Q a w:=h w hS
theorem r2_ {w:World} {b:Nat} {x y p q:Value} {T:TypeId} {fr:Nat × Nat} (h:w.heap[b]?=some (.cells #[x,y] T fr)):((w.setCell ⟨b,0,none⟩ p).setCell ⟨b,1,none⟩ q).heap[b]?=some (.cells #[p,q] T fr):=by
 simp [World.setCell,Array.getElem?_modify,h]
def txO (x:D) (u:List Int):ByteArray:=⟨(cI_ [(x,0)] u).toArray⟩
def fO (W:Nat) (x:D) (u:List Int):Nat × Nat:=cst W 0 (txO x u).data.toList
theorem atF_ (W:Nat) (x:D):bY_ (fO W x) x.ways=some (bU W x):=by
 rw [← alH_ W x]
 congr 1
theorem aa1_ {x:D} {u:List Int} (h:u ∈ x.ways):j5_ x u=(txO x u,0):=by
 obtain ⟨s,hs⟩:=D.lay_way (dp:=0) h;have hb:e0_ u=false:=wS_ (D.ways_bits _ h);have e:txO x u=s:=by rw [txO,lR_ hs]
 rw [e];unfold j5_ wC_;rw [hs,if_neg (by rw [hb];decide)]
theorem alA_ {l:List Nd} {x:D} (hd:Doc l x) {u:List Int} (h:u ∈ x.ways):(txO x u).size<=100000000:=by
 obtain ⟨s,hs⟩:=D.lay_way (dp:=0) h;have e:txO x u=s:=by rw [txO,lR_ hs]
 rw [e];have hp:=hd.pos;have h4:=hd.len;have hr:=hd.root;have hz:=hd.szx;have:=hd.lay_sz (i:=0) hp (dp:=0) (ws:=u) (r:=[]) (s:=s) (by rw [hr];exact hs) (by rw [hr,hz];omega);rw [hr,hz] at this;omega
theorem ab4_ {f:List Int->Nat × Nat} {l:List (List Int)} {v u:List Int} (h:bY_ f l=some v):bY_ f (l++[u])=if cW_ (f u) (f v)=true then some u else some v:=by
 rw [o5_,h];simp [bY_]
def jU_ (W:Nat) (x:D) (l:List (List Int)) (k:Nat) (w1:World) (g n0:Nat) (s10 s11:Value) (w:World):Prop :=
 (k=0/\s10=.string .empty/\s11=.slice none 0 0/\w.heap[g]?=some (.cells #[.int .i64 0,.int .i64 0] 113 (0,0))) ∨
 (∃ v A c,bY_ (fO W x) (l.take k)=some v/\s10=.string (txO x v)/\s11=.slice A v.length c/\(dD_ w1 w1.heap.size A v/\SlP (fun b=>n0<b) w1 A (v.map (.int .i64)))/\w.heap[g]?=some (.cells #[.int .i64 ((fO W x v).1:Nat),.int .i64 ((fO W x v).2:Nat)] 113 (0,0)))
theorem jU_.past {W:Nat} {x:D} {l:List (List Int)} {k:Nat} {w1:World} {g n0:Nat} {s10 s11:Value} {w w':World} (h:jU_ W x l k w1 g n0 s10 s11 w) (hb:Below w.heap.size w w'):jU_ W x l k w1 g n0 s10 s11 w':=by
 rcases h with ⟨h1,h2,h3,h4⟩|⟨v,A,c,h1,h2,h3,h4,h5⟩
 ·exact .inl ⟨h1,h2,h3,(hb.block g (g1_ h4)).trans h4⟩
 ·exact .inr ⟨v,A,c,h1,h2,h3,h4,(hb.block g (g1_ h5)).trans h5⟩
theorem jU_.has {W:Nat} {x:D} {l:List (List Int)} {k:Nat} {w1:World} {g n0:Nat} {s10 s11:Value} {w:World} (h:jU_ W x l k w1 g n0 s10 s11 w):g<w.heap.size:=by
 rcases h with ⟨h1,h2,h3,h4⟩|⟨v,A,c,h1,h2,h3,h4,h5⟩
 ·exact g1_ h4
 ·exact g1_ h5
def wD_ (W:Nat) (x:D) (w:World) (e:Ending) (w':World):Prop:=Below w.heap.size w w' /\
 ((x.ways.length<=300/\∃ A c,e=.returned (.tuple #[.string (bT W x),.slice A (bU W x).length c,.agg #[.int .i64 ((bC W x).1:Nat),.int .i64 ((bC W x).2:Nat)],.bool true])/\dD_ w' w'.heap.size A (bU W x)/\SlP (fun b=>w.heap.size<b) w' A ((bU W x).map (.int .i64))) ∨
  (300<x.ways.length/\e=.returned (.tuple #[.string .empty,.slice none 0 0,.agg #[.int .i64 0,.int .i64 0],.bool false])))
theorem z2_ {l:List Nd} {x:D} (hd:Doc l x) (A:Option Addr) (n c:Nat) (hn:l.length=n) (W:Nat) (w:World) (hl:Nds w w.heap.size A l) :
  Calls Tryz.prog 52 #[.slice A n c,.int .i64 (W:Nat)] w (wD_ W x w):=by
 subst hn;have HN:=hd_ hl;have HD:=hd_ hd;have hr0:(w.alloc (.cells #[.int .i64 0,.int .i64 0] 113)).heap[w.heap.size]?=some (.cells #[.int .i64 0,.int .i64 0] 113 (0,0)):=aG_ rfl;have HR0:=hd_ hr0;have hb0:Below w.heap.size w (w.alloc (.cells #[.int .i64 0,.int .i64 0] 113)):=aE_;have HB0:=hd_ hb0;have HAO:=hd_ (fun (w':World) h=>aaV_ hd A l.length c rfl w' h);have HNE:=hd_ (D.ways_ne (x:=x));have HFO:=hd_ (atF_ W x);have HSR:=hd_ (fun u (hu:u ∈ x.ways)=>aa1_ hu);have HTZ:=hd_ (fun u (hu:u ∈ x.ways)=>alA_ hd hu);obtain ⟨ws,hws⟩:∃ ws,x.ways=ws:=⟨_,rfl⟩;rw [hws] at HAO HNE HFO HSR HTZ;have HWS:=hd_ hws;clear hl hd hr0 hb0 hws;go_enter Tryz.func52,Tryz.ntmps52;go_wp2_with fail;refine (HAO.out _ (HN.out.past HB0.out)).mono ?_;rintro e w1 ⟨hB1,hres⟩;have hR1:=(hB1.block _ (g1_ HR0.out)).trans HR0.out;have r0:=bM_ (j:=0) hR1;have r1:=bM_ (j:=1) hR1;have r2:=dQ_ (j:=0) hR1;have r3:=dQ_ (j:=1) hR1
 simp at r0 r1;have hb1:Below w.heap.size w w1:=HB0.out.trans (hB1.mono HB0.out.size);have HB1:=hd_ hb1;have HR1:=hd_ hR1;clear hB1 hb1 hR1
 rcases hres with ⟨hlen,A1,c1,rfl,hc1,hri,hrq⟩|⟨hlen,rfl⟩
 case inr =>
  go_wp2_with fail;have b0:=r2_ (p:=.int .i64 0) (q:=.int .i64 0) HR1.out;have b1:=bM_ (j:=0) b0;have b2:=bM_ (j:=1) b0;simp at b1 b2;simp [bodyPost,results,Tryz.results52,go_sem,b1,b2];exact ⟨(HB1.out.setCell (p:=⟨w.heap.size,0,none⟩) (Nat.le_refl _) _).setCell (p:=⟨w.heap.size,1,none⟩) (Nat.le_refl _) _,.inr ⟨by rw [HWS.out];exact hlen,rfl⟩⟩
 have HRI:=hd_ hri;have HRQ:Hid (dR_ (fun b=>w.heap.size<b) w1 A1 ws):=hd_ (hrq.mono (fun b hb=>by simp at hb;omega));clear hri hrq;have hpos:0<ws.length:=List.length_pos_iff.2 HNE.out;have hgw:w.heap.size<w1.heap.size:=by have:=g1_ HR1.out;omega
 go_upto_region 8 with fail;go_loopw [10,11,13] (fun s10 s11 s13 wr=>∃ k:Nat,k<=ws.length/\s13=.int .i64 k/\jU_ W x ws k w1 w1.heap.size w.heap.size s10 s11 wr/\Below w1.heap.size w1 wr) (fun _ _ s13 _=>ws.length-(intOf s13).toNat)
 case atStart=>exact ⟨0,by omega,rfl,.inl ⟨rfl,rfl,rfl,aG_ rfl⟩,aE_⟩
 case round =>
  rename_i wr;obtain ⟨k,hk,rfl,hso,hbr⟩:=hrel;have HBR:=hd_ hbr;have HSO:=hd_ hso;clear hbr hso
  by_cases hlt:k<ws.length
  ·obtain ⟨b,off,Aj,cj,u,rfl,hu,hcell,hcj,hnu⟩:=HRI.out.one (Below.refl _ _) hlt;obtain ⟨hka,hua⟩:=List.getElem?_eq_some_iff.1 hu;have hum:u ∈ ws:=by rw [← hua];exact List.getElem_mem hka
   have hbw:b<w1.heap.size:=mR_ hcell;have hsp:SlP (fun b=>w.heap.size<b) w1 Aj (u.map (.int .i64)):=by
    obtain ⟨b',off',Aj',cj',g1,g2,g3,g4⟩:=HRQ.out.one hka
    cases g1
    rw [hua] at g2 g4;rw [hcell] at g2
    cases g2
    exact g4
   have HSP:=hd_ hsp;clear hsp;have hcr:=(HBR.out.cell (p:=⟨b,off+k,none⟩) hbw).trans hcell;have HSH:=hd_ (fun (w':World) h1 h2=>adE_ HD.out A l.length c rfl u Aj u.length cj rfl hcj w' h1 h2);rw [HSR.out u hum] at HSH;have HCO:Hid (∀ w':World,Calls Tryz.prog 105 #[.string (txO x u),.int .i64 (W:Nat)] w' (Ret w' (.agg #[.int .i64 ((fO W x u).1:Nat),.int .i64 ((fO W x u).2:Nat)]))):=hd_ (fun w'=>abD_ (txO x u) (HTZ.out u hum) W w');have HNU:=hd_ hnu;have HTK:Hid (ws.take (k+1)=ws.take k++[u]):=hd_ (by rw [List.take_succ_eq_append_getElem hka,hua]);obtain ⟨T,hT⟩:∃ T,txO x u=T:=⟨_,rfl⟩;obtain ⟨pr,hpr⟩:∃ pr,fO W x u=pr:=⟨_,rfl⟩;obtain ⟨p1,p2⟩:=pr;rw [hT] at HSH HCO;rw [hpr] at HCO;simp only at HSH HCO;have HTT:=hd_ hT;have HPR:=hd_ hpr;clear hnu hT hpr hua hu hum;go_upto_region 12 with (first
    | (go_at_call 104;refine (HSH.out _ ((HN.out.past HB1.out).past HBR.out) (HNU.out.past HBR.out)).mono ?_;rintro e w2 ⟨rfl,hB2⟩)
    | (go_at_call 105;refine (HCO.out _).mono ?_;rintro e w3 ⟨rfl,hB3⟩))
   obtain ⟨h,hh⟩:∃ h,h=w3.heap.size:=⟨_,rfl⟩;rw [← hh];have hB23:Below wr.heap.size wr w3:=hB2.trans (hB3.mono hB2.size);refine vT_ (fun wx=>jU_ W x ws k w1 w1.heap.size w.heap.size u10 u11 wx/\wx.heap[h]?=some (.cells #[.int .i64 (p1:Nat),.int .i64 (p2:Nat)] 113 (0,0))/\Below w1.heap.size w1 wx/\w1.heap.size<h) ⟨(HSO.out.past hB23).past (aE_),aG_ hh.symm,(HBR.out.trans (hB23.mono HBR.out.size)).alloc (by have:=HBR.out.size;have:=hB23.size;omega) _,by have:=HSO.out.has;have:=hB23.size;omega⟩ ?_;rintro wx ⟨hso,hhx,hbx,hgh⟩;have hcx:=(hbx.cell (p:=⟨b,off+k,none⟩) hbw).trans hcell;have e0:=bM_ (j:=0) hhx;have e1:=bM_ (j:=1) hhx;simp at e0 e1;have HBX:=hd_ hbx;have hgl:w1.heap.size<=w1.heap.size:=Nat.le_refl _;have HUP:Hid (∀ wy:World,Below w1.heap.size w1 wy->(∃ y1 y2,wy.heap[w1.heap.size]?=some (.cells #[y1,y2] 113 (0,0)))->bY_ (fO W x) (ws.take (k+1))=some u->jU_ W x ws (k+1) w1 w1.heap.size w.heap.size (.string T) (.slice Aj u.length cj) ((wy.setCell ⟨w1.heap.size,0,none⟩ (.int .i64 (p1:Nat))).setCell ⟨w1.heap.size,1,none⟩ (.int .i64 (p2:Nat)))/\Below w1.heap.size w1 ((wy.setCell ⟨w1.heap.size,0,none⟩ (.int .i64 (p1:Nat))).setCell ⟨w1.heap.size,1,none⟩ (.int .i64 (p2:Nat)))):=hd_ (fun wy hb hy hbest=>by
    obtain ⟨y1,y2,hy⟩:=hy;exact ⟨.inr ⟨u,Aj,cj,hbest,by rw [HTT.out],rfl,⟨HNU.out,HSP.out⟩,by rw [HPR.out];exact r2_ hy⟩,(hb.setCell (p:=⟨w1.heap.size,0,none⟩) hgl _).setCell (p:=⟨w1.heap.size,1,none⟩) hgl _⟩)
   clear hh hB2 hB3 hB23 HSO HBR hcr hbx
   rcases hso with ⟨rfl,rfl,rfl,hg4⟩|⟨v,Av,cv,hbv,rfl,rfl,hnv,hg4⟩
   ·have f0:=bM_ (j:=0) hg4;have f1:=bM_ (j:=1) hg4;have f2:=dQ_ (j:=0) hg4;have f3:=dQ_ (j:=1) hg4;simp at f0 f1;have HX:=hd_ (HUP.out wx HBX.out ⟨_,_,hg4⟩ (by rw [HTK.out];simp [bY_]));clear hg4 hhx;rw [Nat.add_zero] at hcx;go_wp2_with fail;go_roundw
    case measure=>exact me_
    case rel=>exact ⟨0+1,by omega,by go_num,HX.out.1,HX.out.2⟩
   ·have hk0:k≠0:=by
     rintro rfl;simp [bY_] at hbv
    have k1:((k:Int)==0)=false:=by
     have:(k:Int)≠0:=by omega
     simpa using this
    obtain ⟨q1,hq1⟩:∃ q1,(fO W x v).1=q1:=⟨_,rfl⟩;obtain ⟨q2,hq2⟩:∃ q2,(fO W x v).2=q2:=⟨_,rfl⟩;obtain ⟨r,hr⟩:∃ r,cW_ (p1,p2) (q1,q2)=r:=⟨_,rfl⟩;have HLE:=hd_ (fun (w':World)=>zX_ (p1,p2) (q1,q2) hr w');have HSN:=hd_ (ab4_ (u:=u) hbv);have HCL:Hid (cW_ (fO W x u) (fO W x v)=r):=hd_ (by rw [← hr,HPR.out,← hq1,← hq2]);have HOLD:Hid (∀ wy:World,wy.heap[w1.heap.size]?=some (.cells #[.int .i64 (q1:Nat),.int .i64 (q2:Nat)] 113 (0,0))->bY_ (fO W x) (ws.take (k+1))=some v->jU_ W x ws (k+1) w1 w1.heap.size w.heap.size (.string (txO x v)) (.slice Av v.length cv) wy):=hd_ (fun wy hy hb=>.inr ⟨v,Av,cv,hb,rfl,rfl,hnv,by rw [hq1,hq2];exact hy⟩);rw [hq1,hq2] at hg4;have HG4:=hd_ hg4;have f0:=bM_ (j:=0) hg4;have f1:=bM_ (j:=1) hg4;have f2:=dQ_ (j:=0) hg4;have f3:=dQ_ (j:=1) hg4;simp at f0 f1;have hgx:=g1_ hg4;have hhz:=g1_ hhx;have HHX:=hd_ hhx;generalize txO x v=TV at *;clear hhx hr hq1 hq2 hnv hbv hg4
    cases r with
    | true =>
     go_upto_region 13 with (go_at_call 106;refine (HLE.out _).mono ?_;rintro e w5 ⟨rfl,hB5⟩);refine vT_ (fun wz=>wz.heap[w1.heap.size]?=some (.cells #[.int .i64 (q1:Nat),.int .i64 (q2:Nat)] 113 (0,0))/\wz.heap[h]?=some (.cells #[.int .i64 (p1:Nat),.int .i64 (p2:Nat)] 113 (0,0))/\Below w1.heap.size w1 wz) ⟨(hB5.block w1.heap.size hgx).trans HG4.out,(hB5.block h hhz).trans HHX.out,HBX.out.trans (hB5.mono HBX.out.size)⟩ ?_;clear e0 e1 f0 f1 f2 f3 hB5 HG4 HHX HBX hcx;rintro wz ⟨hgz,hhz2,hbz⟩;have hcx:=(hbz.cell (p:=⟨b,off+k,none⟩) hbw).trans hcell;have e0:=bM_ (j:=0) hhz2;have e1:=bM_ (j:=1) hhz2;have f0:=bM_ (j:=0) hgz;have f1:=bM_ (j:=1) hgz;have f2:=dQ_ (j:=0) hgz;have f3:=dQ_ (j:=1) hgz;simp at e0 e1 f0 f1;have HX:=hd_ (HUP.out wz hbz ⟨_,_,hgz⟩ (by rw [HTK.out,HSN.out,if_pos HCL.out]));clear hgz hhz2 hbz;go_wp2_with fail;go_roundw
     case measure=>exact me_
     case rel=>exact ⟨k+1,by omega,by go_num,HX.out.1,HX.out.2⟩
    | false =>
     go_wp2_with (go_at_call 106;refine (HLE.out _).mono ?_;rintro e w5 ⟨rfl,hB5⟩);go_roundw
     case measure=>exact me_
     case rel=>exact ⟨k+1,by omega,by go_num,HOLD.out _ ((hB5.block w1.heap.size hgx).trans HG4.out) (by rw [HTK.out,HSN.out,if_neg (by rw [HCL.out];decide)]),HBX.out.trans (hB5.mono HBX.out.size)⟩
  ·obtain rfl:k=ws.length:=by omega
   rcases HSO.out with ⟨h0,_⟩|⟨v,Av,cv,hbv,rfl,rfl,hnv,hg4⟩
   ·omega
   ·rw [List.take_length,HFO.out] at hbv
    cases hbv
    have hRr:=(HBR.out.block _ (g1_ HR1.out)).trans HR1.out;have t0:=bM_ (j:=0) hRr;have t1:=bM_ (j:=1) hRr;have t2:=dQ_ (j:=0) hRr;have t3:=dQ_ (j:=1) hRr;have f0:=bM_ (j:=0) hg4;have f1:=bM_ (j:=1) hg4;simp at t0 t1 f0 f1;have HNV:=hd_ hnv;have HBW:Hid (Below w.heap.size w wr):=hd_ (HB1.out.trans (HBR.out.mono HB1.out.size));have HRR:=hd_ hRr;have hfc:fO W x (bU W x)=bC W x:=rfl;rw [hfc] at f0 f1;clear hRr hg4 hnv hfc;go_upto_region 16 with fail;go_region
    all_goals
     go_wp2;have b0:=r2_ (p:=.int .i64 ((bC W x).1:Nat)) (q:=.int .i64 ((bC W x).2:Nat)) HRR.out;have b1:=bM_ (j:=0) b0;have b2:=bM_ (j:=1) b0;simp at b1 b2;have hbf:Below w.heap.size w ((wr.setCell ⟨w.heap.size,0,none⟩ (.int .i64 ((bC W x).1:Nat))).setCell ⟨w.heap.size,1,none⟩ (.int .i64 ((bC W x).2:Nat))).drew:=((HBW.out.setCell (p:=⟨w.heap.size,0,none⟩) (Nat.le_refl _) _).setCell (p:=⟨w.heap.size,1,none⟩) (Nat.le_refl _) _).drew;have hks:SlP (fun b=>w.heap.size<b/\b<w1.heap.size) ((wr.setCell ⟨w.heap.size,0,none⟩ (.int .i64 ((bC W x).1:Nat))).setCell ⟨w.heap.size,1,none⟩ (.int .i64 ((bC W x).2:Nat))).drew Av ((bU W x).map (.int .i64)):=HNV.out.2.bound.keep (fun b hb=>by
      show ((wr.setCell ⟨w.heap.size,0,none⟩ (.int .i64 ((bC W x).1:Nat))).setCell ⟨w.heap.size,1,none⟩ (.int .i64 ((bC W x).2:Nat))).heap[b]?=_
      rw [Below.heap_setCell _ _ _ _ (by show b≠w.heap.size;have:=hb.1;omega),Below.heap_setCell _ _ _ _ (by show b≠w.heap.size;have:=hb.1;omega)];exact HBR.out.block b hb.2)
     have hnf:dD_ ((wr.setCell ⟨w.heap.size,0,none⟩ (.int .i64 ((bC W x).1:Nat))).setCell ⟨w.heap.size,1,none⟩ (.int .i64 ((bC W x).2:Nat))).drew ((wr.setCell ⟨w.heap.size,0,none⟩ (.int .i64 ((bC W x).1:Nat))).setCell ⟨w.heap.size,1,none⟩ (.int .i64 ((bC W x).2:Nat))).drew.heap.size Av (bU W x):=by
      refine ⟨?_,HNV.out.1.2⟩;have:=hks.sl;rw [List.length_map] at this;exact this
     simp [bodyPost,results,Tryz.results52,go_sem,b1,b2];exact ⟨hbf,.inl ⟨by rw [HWS.out];exact hlen,Av,cv,rfl,hnf,hks.mono (fun _ hb=>hb.1)⟩⟩
end
end Go.Proofs.YtddfdmopaeghnadGreatDoor
