/- Slices of nodes that a call owns or lays. With what it rests on. Conditions: as each theorem states them. -/
import Derived.Test.YtddfdmopaeghnadGreatDoorRqDw
import Derived.Lib.AppendZeros
import Derived.BigQuiet
import Derived.Deep.QuietTactic
import Derived.Test.YtddfdmopaeghnadGreatDoorRqMk
set_option maxRecDepth 100000
set_option maxHeartbeats 16000000
namespace Go.Proofs.YtddfdmopaeghnadGreatDoor
open Go.RowKit
theorem node_info:(Tryz.prog.info? 190).map (fun i=>(i.zero,i.size,i.bytes))=some (some (.agg #[.int .i64 0,.string .empty,.int .i64 0]),3,32):=by kernel_rfl
theorem nd_one (l:List Nd):∀ u ∈ l.flatMap ndCells,u.oneCell'=true:=by
 intro u hu
 obtain ⟨d,_,hd⟩:=List.mem_flatMap.1 hu
 simp [ndCells] at hd
 rcases hd with rfl|rfl|rfl <;> rfl
theorem Nds.own {w:World} {base n:Nat} {A:Option Addr} {c:Nat} {l:List Nd} (h:w.ownsRow base 190 3 (.slice A n c) n (l.flatMap ndCells)) (hn:n=l.length) (hm:l.length<=maxLen) (ht:∀ d ∈ l,d.text.size<=maxLen):Nds w w.heap.size A l:=by
 subst hn
 exact ⟨.of_own h,hm,ht⟩
theorem own_slice {w:World} {base:Nat} {e:TypeId} {size n:Nat} {v:Value} {xs:List Value} (h:w.ownsRow base e size v n xs):∃ A c,v=.slice A n c:=by
 rcases h.2 with ⟨rfl,rfl⟩|⟨g,cap,cur,rfl,_⟩
 ·exact ⟨_,_,rfl⟩
 ·exact ⟨_,_,rfl⟩
theorem Nds.lit1 (w:World) (d:Nd) (g:Nat) (hg:w.heap.size=g) (hd:d.text.size<=maxLen) :
  Nds (w.alloc (.cells #[.int .i64 d.op,.string d.text,.int .i64 d.n] 190)) (w.alloc (.cells #[.int .i64 d.op,.string d.text,.int .i64 d.n] 190)).heap.size (some ⟨g,0,none⟩) [d]:=by
 subst hg
 exact ⟨.lit w _ _ 1 rfl,by simp [maxLen],by simpa using hd⟩
theorem Nds.alloc {w:World} {A:Option Addr} {l:List Nd} (h:Nds w w.heap.size A l) (o:Obj):Nds (w.alloc o) (w.alloc o).heap.size A l:=⟨h.1.alloc o,h.2⟩
def NdF (lo:Nat) (w:World) (A:Option Addr) (l:List Nd):Prop:=Nds w w.heap.size A l/\∀ ad,A=some ad->lo<=ad.block
theorem NdF.grow {lo:Nat} {w w':World} {A:Option Addr} {l:List Nd} {row:Option Nat} (h:NdF lo w A l) (hg:w.grownBy w' row) (hr:∀ k,row=some k->k<lo):NdF lo w' A l:=by
 obtain ⟨⟨⟨h1,h2⟩,h3,h4⟩,h5⟩:=h
 refine ⟨⟨⟨h1,fun hn=>?_⟩,h3,h4⟩,h5⟩
 obtain ⟨b,off,rfl,hb,hc⟩:=h2 hn
 refine ⟨b,off,rfl,Nat.lt_of_lt_of_le hb hg.size,fun j u hu=>?_⟩
 have hlo:=h5 _ rfl
 exact (World.cell?_of_block (w:=w) (a:=⟨b,off+j,none⟩) (hg.block b hb (fun e=>by have h7:=hr b e.symm;simp only at hlo;omega))).trans (hc j u hu)
theorem grown_of_below {w w':World} (hb:Below w.heap.size w w'):w.grownBy w' none:=⟨hb.os,hb.tape,hb.output,hb.size,fun k hk _=>hb.block k hk⟩
theorem NdF.past {lo:Nat} {w w':World} {A:Option Addr} {l:List Nd} (h:NdF lo w A l) (hb:Below w.heap.size w w'):NdF lo w' A l:=h.grow (grown_of_below hb) (fun _ e=>by cases e)
theorem NdF.less {lo lo':Nat} {w:World} {A:Option Addr} {l:List Nd} (h:NdF lo w A l) (hl:lo'<=lo):NdF lo' w A l:=⟨h.1,fun ad e=>Nat.le_trans hl (h.2 ad e)⟩
theorem NdF.own {w:World} {base n:Nat} {A:Option Addr} {c:Nat} {l:List Nd} (h:w.ownsRow base 190 3 (.slice A n c) n (l.flatMap ndCells)) (hn:n=l.length) (hm:l.length<=maxLen) (ht:∀ d ∈ l,d.text.size<=maxLen):NdF base w A l :=
 ⟨Nds.own h hn hm ht,fun ad e=>by subst e;exact (h.lt ad.block rfl).1⟩
theorem NdF.lit (w:World) (d:Nd) (hd:d.text.size<=maxLen):NdF w.heap.size (w.alloc (.cells #[.int .i64 d.op,.string d.text,.int .i64 d.n] 190)) (some ⟨w.heap.size,0,none⟩) [d] :=
 ⟨Nds.lit1 w d _ rfl hd,fun ad e=>by cases e;exact Nat.le_refl _⟩
def NdTo (d:List Nd) (w:World) (e:Ending) (w':World):Prop:=∃ A c,e=.returned (.slice A d.length c)/\NdF w.heap.size w' A d/\Below w.heap.size w w'
def GrowTo (w:World) (e:Ending) (w':World):Prop:=∃ A c,e=.returned (.slice A 0 c)/\w'.ownsRow w.heap.size 190 3 (.slice A 0 c) 0 []/\Below w.heap.size w w'
theorem ndgrow_any (n:Nat) (h0:0<n) (hn:n<=100000) (w:World):Calls Tryz.prog 219 #[.slice none 0 0,.int .i64 (n:Nat)] w (GrowTo w):=by
 obtain ⟨i0,hi0,hz0,hz1,hz2⟩:=info_parts node_info
 have happ:=Lib.run_append_nil_zeros (P:=Tryz.prog) w 109 3 109 190 i0 (.agg #[.int .i64 0,.string .empty,.int .i64 0]) .i64 .i64 Tryz.underlying109 Tryz.underlying3 hi0 hz0 n h0 (by omega) (by omega) (by rw [hz2];omega)
 generalize hcap:grownCap w n 0 190=cap at happ
 have hge:n<=cap:=by rw [← hcap];exact grownCap_ge w _ 0 _
 have hle:cap<=maxLen:=by rw [← hcap];exact grownCap_le_maxLen w _ 0 _ (by unfold maxLen;omega)
 generalize hZ:(Builtin.zeroCells (Value.agg #[.int .i64 0,.string .empty,.int .i64 0]).cells n++Builtin.zeroCells (Value.agg #[.int .i64 0,.string .empty,.int .i64 0]).cells (cap-n))=Z at happ
 have hZs:Z.size=cap*3:=by rw [← hZ];simp [size_zeroCells,Value.cells];omega
 clear hcap hZ
 have HO:=hd_ (World.ownsRow_made (base:=w.heap.size) (e:=190) (size:=3) w.drew Z cap (Nat.le_refl _) hle hZs)
 have HAP:=hd_ happ
 unfold maxLen at hle
 clear happ hZs hi0 hz0 hz1 hz2
 go_enter Tryz.func219,Tryz.ntmps219
 go_wp2_with (at_builtin;refine Lib.wpList_append_run _ rfl _ _ _ _ rfl _ _ rfl rfl _ _ HAP.out ?_)
 go_ret
 exact ⟨_,_,rfl,HO.out,bel_⟩
structure Sls (w:World) (B:Nat) (A:Option Addr) (ls:List (List Nd)):Prop where
 sl:∃ vs:List Value,Sl w B 1 A ls.length vs/\∀ (j:Nat) v,vs[j]?=some v->∃ Aj cj u,ls[j]?=some u/\v=.slice Aj u.length cj/\Nds w B Aj u
theorem Sls.one {w wr:World} {A:Option Addr} {ls:List (List Nd)} (h:Sls w w.heap.size A ls) (hB:Below w.heap.size w wr) {k:Nat} (hk:k<ls.length) :
  ∃ b off Aj cj u,A=some ⟨b,off,none⟩/\b<wr.heap.size/\ls[k]?=some u/\wr.cell? ⟨b,off+k,none⟩=some (.slice Aj u.length cj)/\Nds wr wr.heap.size Aj u:=by
 obtain ⟨vs,h1,h2⟩:=h.sl
 obtain ⟨b,off,v,e1,e2,e3,e4⟩:=h1.one hk
 obtain ⟨Aj,cj,u,g1,rfl,g3⟩:=h2 k v e3
 exact ⟨b,off,Aj,cj,u,e1,Nat.lt_of_lt_of_le e2 hB.size,g1,(hB.cell (p:=⟨b,off+k,none⟩) e2).trans e4,g3.past hB⟩
theorem Sls.texts {w:World} {A:Option Addr} {ls:List (List Nd)} (h:Sls w w.heap.size A ls):∀ d ∈ ls.flatten,d.text.size<=maxLen:=by
 intro d hd
 obtain ⟨u,hu,hdu⟩:=List.mem_flatten.1 hd
 obtain ⟨k,hk,rfl⟩:=List.getElem_of_mem hu
 obtain ⟨b,off,Aj,cj,u,_,_,h3,_,h5⟩:=h.one (Below.refl _ _) hk
 rw [List.getElem?_eq_getElem hk] at h3
 cases h3
 exact h5.2.2 d hdu
def catL (ls:List (List Nd)) (k:Nat):List Nd:=(ls.take k).flatten
theorem catL_succ {ls:List (List Nd)} {k:Nat} {u:List Nd} (h:ls[k]?=some u):catL ls (k+1)=catL ls k++u:=by
 unfold catL
 rw [List.take_add_one,h];simp
theorem catL_end {ls:List (List Nd)} {k:Nat} (h:ls.length<=k):catL ls k=ls.flatten:=by
 unfold catL;rw [List.take_of_length_le h]
theorem catL_le (ls:List (List Nd)) (k:Nat):(catL ls k).length<=ls.flatten.length:=by
 have h:=congrArg (fun l:List (List Nd)=>l.flatten.length) (List.take_append_drop k ls)
 simp only [List.flatten_append,List.length_append] at h
 unfold catL;omega
theorem ndcat_any (ls:List (List Nd)) (A:Option Addr) (c:Nat) (w:World) (h:Sls w w.heap.size A ls) (h0:0<ls.flatten.length) (ht:ls.flatten.length<=20000) (hl:ls.length<=100) :
  Calls Tryz.prog 190 #[.slice A ls.length c] w (NdTo ls.flatten w):=by
 obtain ⟨i0,hi0,hz0,hz1,hz2⟩:=info_parts node_info
 have HTX:=hd_ h.texts
 have HS:=hd_ h;clear h
 have HLE:=hd_ (catL_le ls)
 have hE:∀ k,ls.length<=k->catL ls k=ls.flatten:=fun k hk=>catL_end hk
 have HE:=hd_ hE;clear hE
 obtain ⟨T,hT⟩:∃ T,T=ls.flatten.length:=⟨_,rfl⟩
 rw [← hT] at h0 ht
 have HT:=hd_ hT;clear hT
 go_enter Tryz.func190,Tryz.ntmps190
 go_wp2
 go_loop [3,5,11] (fun s _ i=>∃ k q:Nat,k<=ls.length/\i=.int .i64 k/\s=.int .i64 q/\q<=T/\Hid (q=(catL ls k).length)) (fun _ _ i=>ls.length-(intOf i).toNat)
 case atStart=>exact ⟨0,0,by omega,rfl,rfl,by omega,hd_ rfl⟩
 case round =>
  obtain ⟨k,q,hk,rfl,rfl,hqT,HQ⟩:=hrel
  by_cases hlt:k<ls.length
  ·obtain ⟨b,off,Aj,cj,u,rfl,hb,hu,hc,hN⟩:=HS.out.one (Below.refl _ _) hlt
   have HST:=hd_ (catL_succ hu)
   have hq2:q+u.length<=T:=by
    have h1:=HLE.out (k+1)
    have h2:=HQ.out
    rw [HST.out,List.length_append,← h2,← HT.out] at h1
    exact h1
   clear hu hN
   go_wp2
   go_round
   case rel=>exact ⟨k+1,q+u.length,by omega,by go_num,by go_num,hq2,hd_ (by rw [HST.out,List.length_append,← HQ.out])⟩
   case measure=>simp [intOf];omega
  ·have hqe:q=T:=by
    have h2:=HQ.out
    rw [HE.out k (by omega)] at h2
    rw [h2,HT.out]
   subst hqe
   clear hqT
   go_wp2_with (go_at_call 219;refine (ndgrow_any q h0 (by omega) w).mono ?_;rintro e w1 ⟨A1,c1,rfl,hown,hB1⟩;have HO:=hd_ hown;clear hown)
   go_loopw [6,8,27] (fun v _ i wr=>∃ (k n:Nat) (A2:Option Addr) (c2:Nat),k<=ls.length/\i=.int .i64 k/\v=.slice A2 n c2/\n<=q/\Hid (n=(catL ls k).length)/\Hid (wr.ownsRow w.heap.size 190 3 (.slice A2 n c2) n ((catL ls k).flatMap ndCells))/\Below w.heap.size w wr) (fun _ _ i _=>ls.length-(intOf i).toNat)
   case atStart=>exact ⟨0,0,A1,c1,by omega,rfl,rfl,by omega,hd_ rfl,hd_ HO.out,hB1⟩
   case round =>
    obtain ⟨k,n,A2,c2,hk2,rfl,rfl,hnq,HNL,HOW,hB⟩:=hrel
    by_cases hlt2:k<ls.length
    ·obtain ⟨b,off,Aj,cj,u,rfl,hb,hu,hc,hN⟩:=HS.out.one hB hlt2
     have HST:=hd_ (catL_succ hu)
     have hq2:n+u.length<=q:=by
      have h1:=HLE.out (k+1)
      have h2:=HNL.out
      rw [HST.out,List.length_append,← h2,← HT.out] at h1
      exact h1
     have hsz:=hB.size
     have HN:=hd_ hN
     clear hu hN
     go_wp2_with (at_builtin;refine wpList_app _ rfl (.tmp 31) (.tmp 32) _ rfl w.heap.size 190 i0 _ 3 32 Tryz.underlying109 hi0 hz0 hz1 hz2 rfl (by omega) _ n _ rfl HOW.out _ Aj u.length cj _ rfl HN.out.1 (nd_one u) (by simp only [maxLen];omega) (by omega) (by omega) ?_;intro v3 w3 hown3 hg3 hat3;clear hat3;obtain ⟨A3,c3,hv3⟩:=own_slice hown3;subst hv3;have H3:=hd_ hown3;have HG3:=hd_ hg3;clear hown3 hg3)
     go_roundw
     case measure=>simp [intOf];omega
     case rel =>
      refine ⟨k+1,n+u.length,A3,c3,by omega,by go_num,rfl,hq2,hd_ (by rw [HST.out,List.length_append,← HNL.out]),hd_ (by rw [HST.out,List.flatMap_append];exact H3.out),hB.grown HG3.out hsz ?_⟩
      intro g hg
      exact (HOW.out.lt g hg).1
    ·have hnl:n=ls.flatten.length:=by rw [HNL.out,HE.out k (by omega)]
     have HNE:=hd_ hnl;clear hnl
     go_wp2
     go_ret
     refine ⟨A2,c2,by rw [HNE.out];rfl,NdF.own (n:=n) (c:=c2) ?_ HNE.out ?_ HTX.out,hB⟩
     ·have h7:=HOW.out
      rw [HE.out k (by omega)] at h7
      exact h7
     ·rw [← HNE.out];simp only [maxLen];omega
theorem rq11 {P:Prop} (h:P:=by
 rintro e w' ⟨A,c,rfl,h1,h2⟩
 rw [hf] at h1 ⊢
 exact ⟨A,c,rfl,h1.less (by simp),((Below.refl _ _).alloc (Nat.le_refl _) _).trans (h2.mono (by simp))⟩):P:=h
theorem ndcat3 {x y z d:List Nd} {X Y Z:Option Addr} {n1 n2 n3 p q r g:Nat} {w:World} (hx:Nds w w.heap.size X x) (hy:Nds w w.heap.size Y y) (hz:Nds w w.heap.size Z z) (h1:x.length=n1) (h2:y.length=n2) (h3:z.length=n3)
  (hg:w.heap.size=g) (hd:x++(y++z)=d) (h0:0<d.length) (ht:d.length<=20000) :
  Calls Tryz.prog 190 #[.slice (some ⟨g,0,none⟩) 3 3] (w.alloc (.cells #[.slice X n1 p,.slice Y n2 q,.slice Z n3 r] 109)) (NdTo d w):=by
 subst h1 h2 h3 hg
 have hf:[x,y,z].flatten=d:=by simpa using hd
 have hS:Sls (w.alloc (.cells #[.slice X x.length p,.slice Y y.length q,.slice Z z.length r] 109)) (w.alloc (.cells #[.slice X x.length p,.slice Y y.length q,.slice Z z.length r] 109)).heap.size (some ⟨w.heap.size,0,none⟩) [x,y,z]:=by
  refine ⟨_,.lit w _ _ 3 rfl,fun j v hv=>?_⟩
  rcases j with _|_|_|j
  ·cases hv;exact ⟨X,p,x,rfl,rfl,hx.alloc _⟩
  ·cases hv;exact ⟨Y,q,y,rfl,rfl,hy.alloc _⟩
  ·cases hv;exact ⟨Z,r,z,rfl,rfl,hz.alloc _⟩
  ·simp at hv
 refine (ndcat_any [x,y,z] _ 3 _ hS (by rw [hf];exact h0) (by rw [hf];exact ht) (by simp)).mono ?_
 exact rq11
theorem ndcat2 {x y d:List Nd} {X Y:Option Addr} {n1 n2 p q g:Nat} {w:World} (hx:Nds w w.heap.size X x) (hy:Nds w w.heap.size Y y) (h1:x.length=n1) (h2:y.length=n2)
  (hg:w.heap.size=g) (hd:x++y=d) (h0:0<d.length) (ht:d.length<=20000) :
  Calls Tryz.prog 190 #[.slice (some ⟨g,0,none⟩) 2 2] (w.alloc (.cells #[.slice X n1 p,.slice Y n2 q] 109)) (NdTo d w):=by
 subst h1 h2 hg
 have hf:[x,y].flatten=d:=by simpa using hd
 have hS:Sls (w.alloc (.cells #[.slice X x.length p,.slice Y y.length q] 109)) (w.alloc (.cells #[.slice X x.length p,.slice Y y.length q] 109)).heap.size (some ⟨w.heap.size,0,none⟩) [x,y]:=by
  refine ⟨_,.lit w _ _ 2 rfl,fun j v hv=>?_⟩
  rcases j with _|_|j
  ·cases hv;exact ⟨X,p,x,rfl,rfl,hx.alloc _⟩
  ·cases hv;exact ⟨Y,q,y,rfl,rfl,hy.alloc _⟩
  ·simp at hv
 refine (ndcat_any [x,y] _ 2 _ hS (by rw [hf];exact h0) (by rw [hf];exact ht) (by simp)).mono ?_
 exact rq11
theorem rq10 {P:Prop} (h:P:=by
 cases sec
 ·go_enter Tryz.func199,Tryz.ntmps199
  go_wp2
  go_ret
  exact ⟨rfl,bel_⟩
 ·go_enter Tryz.func199,Tryz.ntmps199
  go_wp2
  go_ret
  exact ⟨rfl,bel_⟩):P:=h
theorem bound_any (po pn ko kn:Int) (pt kt:ByteArray) (sec:Bool) (w:World) :
  Calls Tryz.prog 199 #[.agg #[.int .i64 po,.string pt,.int .i64 pn],.agg #[.int .i64 ko,.string kt,.int .i64 kn],.bool sec] w (Ret w (.bool (boundF po ko sec))):=by
 by_cases h6:po=6
 ·subst h6
  by_cases k5:ko=5
  ·subst k5
   rw [show boundF 6 5 sec=true by cases sec <;> rfl]
   go_enter Tryz.func199,Tryz.ntmps199
   go_wp2
   go_ret
   exact ⟨rfl,bel_⟩
  ·have k5b:(ko==5)=false:=by simpa using k5
   by_cases k6:ko=6
   ·subst k6
    rw [show boundF 6 6 sec=sec by cases sec <;> rfl]
    exact rq10
   ·have k6b:(ko==6)=false:=by simpa using k6
    rw [show boundF 6 ko sec=false by simp [boundF,k5,k6]]
    clear k5 k6
    exact rq10
 ·by_cases h5:po=5
  ·subst h5
   by_cases k5:ko=5
   ·subst k5
    rw [show boundF 5 5 sec=sec by cases sec <;> rfl]
    exact rq10
   ·have k5b:(ko==5)=false:=by simpa using k5
    rw [show boundF 5 ko sec=false by simp [boundF,k5]]
    clear k5 h6
    exact rq10
  ·have h5b:(po==5)=false:=by simpa using h5
   have h6b:(po==6)=false:=by simpa using h6
   rw [show boundF po ko sec=false by simp [boundF,h5,h6]]
   clear h5 h6
   go_enter Tryz.func199,Tryz.ntmps199
   go_wp2
   go_ret
   exact ⟨rfl,bel_⟩
theorem opN_len (k:Int):(opN k).length=1:=rfl
theorem wordN_len (s:ByteArray):(wordN s).length=1:=rfl
theorem bothN_len (a b:List Nd):(bothN a b).length=a.length+b.length+1:=by simp [bothN]
theorem groupN_len (a:List Nd):(groupN a).length=a.length+1:=by simp [groupN]
theorem deepN_len (a:List Nd):(deepN a).length=a.length+1:=by simp [deepN]
theorem lword_any (s:ByteArray) (hs:s.size<=maxLen) (w:World):Calls Tryz.prog 147 #[.string s] w (NdTo (wordN s) w):=by
 have HL:=hd_ (NdF.lit w ⟨1,s,0⟩ hs)
 clear hs
 go_enter Tryz.func147,Tryz.ntmps147
 go_wp2
 go_ret
 exact ⟨_,_,rfl,HL.out,bel_⟩
theorem lop_any (k:Int) (w:World):Calls Tryz.prog 152 #[.int .i64 k] w (NdTo (opN k) w):=by
 have HL:=hd_ (NdF.lit w ⟨k,.empty,0⟩ (by simp [maxLen]))
 go_enter Tryz.func152,Tryz.ntmps152
 go_wp2
 go_ret
 exact ⟨_,_,rfl,HL.out,bel_⟩
theorem lboth_any (a b:List Nd) (A B:Option Addr) (c d:Nat) (w:World) (ha:Nds w w.heap.size A a) (hb:Nds w w.heap.size B b) (hsz:a.length+b.length<=10000) :
  Calls Tryz.prog 151 #[.slice A a.length c,.slice B b.length d] w (NdTo (bothN a b) w):=by
 have HA:=hd_ ha;have HB:=hd_ hb;clear ha hb
 have hbl:=bothN_len a b
 have hd:opN 6++(a++b)=bothN a b:=rfl
 have HD:=hd_ hd;have HBL:=hd_ hbl;clear hd hbl
 generalize hn1:a.length=n1 at *
 generalize hn2:b.length=n2 at *
 have HN1:=hd_ hn1;have HN2:=hd_ hn2;clear hn1 hn2
 go_enter Tryz.func151,Tryz.ntmps151
 go_wp2_with (first
  | (go_at_call 152;refine (lop_any 6 w).mono ?_;rintro e w1 ⟨A1,c1,rfl,hn1,hB1⟩;have H1:=hd_ hn1.1;clear hn1)
  | (go_at_call 190;refine (ndcat3 H1.out (HA.out.past hB1) (HB.out.past hB1) rfl HN1.out HN2.out rfl HD.out (by rw [HBL.out];omega) (by rw [HBL.out];omega)).mono ?_;rintro e w2 ⟨A2,c2,rfl,hn2,hB2⟩))
 go_ret
 exact ⟨A2,c2,rfl,hn2.less hB1.size,hB1.trans (hB2.mono hB1.size)⟩
theorem lgroup_any (a:List Nd) (A:Option Addr) (c:Nat) (w:World) (ha:Nds w w.heap.size A a) (hsz:a.length<=10000) :
  Calls Tryz.prog 153 #[.slice A a.length c] w (NdTo (groupN a) w):=by
 have HA:=hd_ ha;clear ha
 have hd:opN 8++a=groupN a:=rfl
 have HD:=hd_ hd;have HBL:=hd_ (groupN_len a);clear hd
 generalize hn1:a.length=n1 at *
 have HN1:=hd_ hn1;clear hn1
 go_enter Tryz.func153,Tryz.ntmps153
 go_wp2_with (first
  | (go_at_call 152;refine (lop_any 8 w).mono ?_;rintro e w1 ⟨A1,c1,rfl,hn1,hB1⟩;have H1:=hd_ hn1.1;clear hn1)
  | (go_at_call 190;refine (ndcat2 H1.out (HA.out.past hB1) rfl HN1.out rfl HD.out (by rw [HBL.out];omega) (by rw [HBL.out];omega)).mono ?_;rintro e w2 ⟨A2,c2,rfl,hn2,hB2⟩))
 go_ret
 exact ⟨A2,c2,rfl,hn2.less hB1.size,hB1.trans (hB2.mono hB1.size)⟩
theorem ldeep_any (a:List Nd) (A:Option Addr) (c:Nat) (w:World) (ha:Nds w w.heap.size A a) (hsz:a.length<=10000) :
  Calls Tryz.prog 150 #[.slice A a.length c] w (NdTo (deepN a) w):=by
 have HA:=hd_ ha;clear ha
 have hd:[(⟨7,.empty,2⟩:Nd)]++a=deepN a:=rfl
 have HD:=hd_ hd;have HBL:=hd_ (deepN_len a);clear hd
 generalize hn1:a.length=n1 at *
 have HN1:=hd_ hn1;clear hn1
 have hl:NdF w.heap.size (w.alloc (.cells #[.int .i64 7,.string .empty,.int .i64 2] 190)) (some ⟨w.heap.size,0,none⟩) [⟨7,.empty,2⟩]:=NdF.lit w ⟨7,.empty,2⟩ (by simp [maxLen])
 have HL:=hd_ hl.1
 have HA2:=hd_ (HA.out.past ((Below.refl w.heap.size w).alloc (Nat.le_refl _) (.cells #[.int .i64 7,.string .empty,.int .i64 2] 190)))
 clear hl
 go_enter Tryz.func150,Tryz.ntmps150
 go_wp2_with (go_at_call 190;refine (ndcat2 HL.out HA2.out rfl HN1.out (by simp) HD.out (by rw [HBL.out];omega) (by rw [HBL.out];omega)).mono ?_;rintro e w2 ⟨A2,c2,rfl,hn2,hB2⟩)
 go_ret
 exact ⟨A2,c2,rfl,hn2.less (by simp),Below.trans bel_ (hB2.mono (by simp))⟩
end Go.Proofs.YtddfdmopaeghnadGreatDoor
