/- Walk of doc.Ends: of a doc that may be, where the doc at each node ends. Condition: the slice of nodes lies below the call's own blocks and is a doc that may be. Walks of package flat: join, Text, Lines, Flat. Condition: the slice of nodes lies below the call's own blocks. -/
import Derived.Test.YtddfdmopaeghnadGreatDoorRqDw
import Derived.BigQuiet
import Derived.Deep.QuietTactic
import Derived.Deep.RegionHeld3
import Derived.Laws.ResultCell
set_option maxRecDepth 100000
set_option maxHeartbeats 16000000
namespace Go.Proofs.YtddfdmopaeghnadGreatDoor
open Go.RowKit
def endsL (l:List Nd):List Value:=(List.range l.length).map fun i=>.int .i64 (endAt l i:Nat)
def nextEnd (l:List Nd) (i:Nat):Nat->Nat
 | 0=>i+1
 | j+1=>endAt l (nextEnd l i j)
theorem Doc.nextEnd_ {l:List Nd} {x:D} (h:Doc l x) {i:Nat} (hi:i<l.length):∃ p:Nat,parts l[i].op=p/\nextEnd l i p=endAt l i/\∀ j,j<p->i<nextEnd l i j/\nextEnd l i j<l.length:=by
 rcases h.parts_ hi with ⟨h1,h2⟩|⟨h1,h2,h3⟩|⟨h1,h2,h3,h4⟩
 ·refine ⟨0,h1, ?_,fun j hj=>absurd hj (by omega)⟩
  simp [nextEnd,endAt,h2,D.sz]
 ·refine ⟨1,h1, ?_,fun j hj=>?_⟩
  ·simp [nextEnd,endAt,h3,D.sz];omega
  ·obtain rfl:j=0:=by omega
   simp only [nextEnd];omega
 ·refine ⟨2,h1, ?_,fun j hj=>?_⟩
  ·simp [nextEnd,endAt,h4,D.sz];omega
  ·have hj':j=0∨j=1:=by omega
   rcases hj' with rfl|rfl
   ·simp only [nextEnd];omega
   ·simp only [nextEnd,endAt];omega
theorem int_info:(Tryz.prog.info? 3).map (fun i=>(i.zero,i.size,i.bytes))=some (some (.int .i64 0),1,8):=by kernel_rfl
theorem ends_any (l:List Nd) (x:D) (A:Option Addr) (c:Nat) (w:World) (hl:Nds w w.heap.size A l) (hd:Doc l x) :
  Calls Tryz.prog 156 #[.slice A l.length c] w fun e w'=>∃ g:Nat,e=.returned (.slice (some ⟨g,0,none⟩) l.length l.length) /\
   w'.ownsRow w.heap.size 3 1 (.slice (some ⟨g,0,none⟩) l.length l.length) l.length (endsL l)/\Below w.heap.size w w':=by
 have h400:=hd.len
 obtain ⟨i0,hi0,hz0,hz1,hz2⟩:=info_parts int_info
 have HN:=hd_ hl;clear hl
 have HD:=hd_ hd;clear hd
 go_enter Tryz.func156,Tryz.ntmps156
 go_wp2_with (at_make;refine wpList_make_full _ rfl (.tmp 7) (.tmp 7) 73 rfl w.heap.size 3 i0 (.int .i64 0) 1 Tryz.underlying73 hi0 hz0 hz1 .i64 .i64 _ _ l.length rfl rfl rfl rfl (by rw [hz2];omega) (by simp only [maxLen];omega) (Nat.le_refl _) ?_;intro w1 hown hg)
 have hB1:Below w.heap.size w w1:=(Below.refl _ _).grown hg (Nat.le_refl _) (by simp)
 clear hi0 hz0 hz1 hz2 hg
 obtain ⟨g,hge⟩:∃ g,g=w.heap.size:=⟨_,rfl⟩
 rw [← hge] at hown ⊢
 have HG:=hd_ hge;clear hge
 go_loopw [4,5,24] (fun i _ _ wr=>∃ (m:Nat) (xs:List Value),m<=l.length/\i=.int .i64 ((m:Int)-1)/\wr.ownsRow g 3 1 (.slice (some ⟨g,0,none⟩) l.length l.length) l.length xs /\
   (∀ j,m<=j->j<l.length->xs[j]?=some (.int .i64 (endAt l j:Nat)))/\Below g w wr/\g<wr.heap.size) (fun i _ _ _=>(intOf i+1).toNat)
 case atStart =>
  refine ⟨l.length,_,Nat.le_refl _,rfl,hown,fun j h1 h2=>absurd h1 (by omega),HG.out▸hB1, ?_⟩
  have:=hown.lt g rfl;omega
 case round =>
  obtain ⟨m,xs,hm,rfl,hown,hxs,hB,hgs⟩:=hrel
  have HX:=hd_ hxs;clear hxs
  have HO:=hd_ hown;clear hown
  cases m with
  | zero =>
   go_wp2
   go_ret
   refine ⟨g,rfl, ?_,HG.out▸hB⟩
   have he:xs=endsL l:=by
    apply List.ext_getElem?
    intro j
    by_cases hj:j<l.length
    ·rw [HX.out j (Nat.zero_le _) hj];simp [endsL,hj]
    ·rw [List.getElem?_eq_none (by have:=HO.out.1;omega),List.getElem?_eq_none (by simp [endsL];omega)]
   rw [← HG.out,← he]
   exact HO.out
  | succ i =>
   have hi:i<l.length:=by omega
   obtain ⟨b,off,op,t,n,rfl,hb,hnd,hts,d1,d2,d3⟩:=HN.out.node (HG.out▸hB) hi
   clear d2 d3
   obtain ⟨p,hp,hpe,hpl⟩:=HD.out.nextEnd_ hi
   rw [hnd] at hp
   have HP:=hd_ hp;have HPE:=hd_ hpe;have HPL:=hd_ hpl;clear hp hpe hpl hnd
   have hp2:p<=2:=by have:=parts_bd op;have:=HP.out;dsimp only at this;omega
   rw [show (((i+1:Nat):Int)-1)=(i:Int) from by omega]
   go_wp2_with (go_at_call 155;refine (parts_any _ _).mono ?_;rintro e w2 ⟨rfl,rfl⟩)
   rw [show parts op=(p:Int) from HP.out]
   go_loop [5,24] (fun e c=>∃ j:Nat,j<=p/\c=.int .i64 j/\e=.int .i64 (nextEnd l i j:Nat)) (fun _ c=>p-(intOf c).toNat)
   case atStart=>exact ⟨0,Nat.zero_le _,rfl,by simp [nextEnd]⟩
   case round =>
    obtain ⟨j,hj,rfl,rfl⟩:=hrel
    by_cases hlt:j<p
    ·obtain ⟨n1,n2⟩:=HPL.out j hlt
     obtain ⟨q,hq⟩:∃ q,q=nextEnd l i j:=⟨_,rfl⟩
     have hq2:nextEnd l i (j+1)=endAt l q:=by rw [nextEnd,← hq]
     rw [← hq] at n1 n2 ⊢
     have HQ:=hd_ hq2;clear hq hq2
     have hc:wr.cell? ⟨g,q,none⟩=some (.int .i64 (endAt l q:Nat)):=by
      rw [HO.out.cellAt q (by omega)];exact HX.out q (by omega) n2
     clear hb
     go_wp2
     go_round
     case rel=>exact ⟨j+1,by omega,by go_num,by rw [HQ.out]⟩
     case measure=>simp [intOf];omega
    ·obtain rfl:j=p:=by omega
     rw [HPE.out]
     have hold:∃ u,wr.cell? ⟨g,i,none⟩=some u:=⟨_,by rw [HO.out.cellAt i (by omega)];exact List.getElem?_eq_getElem (by have:=HO.out.1;omega)⟩
     obtain ⟨u,hu⟩:=hold
     have hf:=HO.out.frozenAt i
     have hst:=HO.out.stored i (.int .i64 (endAt l i:Nat))
     have HST:=hd_ hst;clear hst
     go_wp2
     go_roundw
     case rel =>
      refine ⟨i,_,by omega,rfl,HST.out.1,fun j h1 h2=>?_,hB.setCell (Nat.le_refl _) _,by simp [World.setCell];omega⟩
      rcases Nat.eq_or_lt_of_le h1 with rfl|h3
      ·rw [List.getElem?_set_self (by have:=HO.out.1;omega)]
      ·rw [List.getElem?_set_ne (by omega)]
       exact HX.out j (by omega) h2
     case measure=>simp [intOf]
def joinF:ByteArray × Bool->ByteArray × Bool->ByteArray × Bool
 | (s,true),(t,true)=>(s++t,true)
 | _,_=>(.empty,false)
def lineV (p:ByteArray × Bool):List Value:=[.string p.1,.bool p.2]
theorem line_info:(Tryz.prog.info? 239).map (fun i=>(i.zero,i.size,i.bytes))=some (some (.agg #[.string .empty,.bool false]),2,24):=by kernel_rfl
theorem join_any (s t:ByteArray) (a b:Bool) (w:World) (h:s.size+t.size<=maxLen) :
  Calls Tryz.prog 192 #[.agg #[.string s,.bool a],.agg #[.string t,.bool b]] w
   (Ret w (.agg #[.string (joinF (s,a) (t,b)).1,.bool (joinF (s,a) (t,b)).2])):=by
 unfold maxLen at h
 cases a <;> cases b
 all_goals
  go_enter Tryz.func192,Tryz.ntmps192
  go_wp2
  simp [bodyPost,results,Tryz.results192,go_sem]
  exact ⟨rfl,bel_⟩
theorem lineText_any (s:ByteArray) (a:Bool) (w:World) :
  Calls Tryz.prog 158 #[.agg #[.string s,.bool a]] w
   (Ret w (.tuple #[.string s,.bool a])):=by
 go_enter Tryz.func158,Tryz.ntmps158
 go_wp2
 go_quiet (fail)
 go_wp2
 go_ret2
 exact ⟨rfl,below_drewN ((Below.refl _ _).alloc (Nat.le_refl _) _) _⟩
def lineAt (l:List Nd) (i:Nat):ByteArray × Bool:=lineOf (docAt l i).flat
def linesL (l:List Nd):List Value:=(List.range l.length).flatMap fun i=>lineV (lineAt l i)
theorem linesL_at (l:List Nd) (k:Nat) (hk:k<l.length):(linesL l)[k*2]?=some (.string (lineAt l k).1)/\(linesL l)[k*2+1]?=some (.bool (lineAt l k).2):=by
 have main:∀ (m:Nat) (f:Nat->ByteArray × Bool) (k:Nat),k<m->((List.range m).flatMap fun i=>lineV (f i))[k*2]?=some (.string (f k).1)/\((List.range m).flatMap fun i=>lineV (f i))[k*2+1]?=some (.bool (f k).2):=by
  intro m
  induction m with
  | zero=>intro f k hk;omega
  | succ m ih =>
   intro f k hk
   rw [List.range_succ_eq_map,List.flatMap_cons]
   cases k with
   | zero=>simp [lineV]
   | succ k =>
    have:=ih (fun i=>f (i+1)) k (by omega)
    rw [List.flatMap_map,List.getElem?_append_right (by simp [lineV];omega),List.getElem?_append_right (by simp [lineV];omega)]
    have e1:(k+1)*2-(lineV (f 0)).length=k*2:=by simp [lineV];omega
    have e2:(k+1)*2+1-(lineV (f 0)).length=k*2+1:=by simp [lineV];omega
    rw [e1,e2]
    exact this
 exact main l.length (lineAt l) k hk
theorem Doc.flat_len {l:List Nd} {x:D} (h:Doc l x) {i:Nat} (hi:i<l.length):(lineAt l i).1.size<=20*(docAt l i).sz:=by
 have main:∀ y:D,(∀ d ∈ y.enc,oneF d.op d.text d.n=0)->(lineOf y.flat).1.size<=20*y.sz:=by
  intro y
  induction y with
  | leaf d =>
   intro ho
   have h1:=ho d (by simp [D.enc])
   have h2:d.op=1->d.text.size<=20:=by
    intro h
    unfold oneF at h1
    rw [if_neg (by omega)] at h1
    split at h1
    ·cases h1
    ·split at h1
     ·cases h1
     ·rename_i hh;have:¬ 20<d.text.size:=fun h'=>hh ⟨h,.inr (.inl h')⟩
      omega
   simp only [D.flat,D.sz]
   split
   ·rename_i h;simpa [lineOf] using h2 h
   ·split
    ·simp [lineOf,ByteArray.size]
    ·split <;> simp [lineOf]
  | un d a ih =>
   intro ho
   have:=ih (fun e he=>ho e (by simp [D.enc,he]))
   simp only [D.flat,D.sz];omega
  | bin d a b ia ib =>
   intro ho
   have h1:=ia (fun e he=>ho e (by simp [D.enc,he]))
   have h2:=ib (fun e he=>ho e (by simp [D.enc,he]))
   simp only [D.flat,D.sz]
   split
   ·cases ha:a.flat <;> cases hb:b.flat <;> simp_all [lineOf] <;> omega
   ·omega
 obtain ⟨r,h1,h2⟩:=h.at_ hi
 refine main _ fun d hd=>h.one d ?_
 have:d ∈ l.drop i:=by rw [h1];exact List.mem_append_left _ hd
 exact List.mem_of_mem_drop this
theorem made2 (a b:Value) (n j:Nat) (hj:j<n):(madeCells #[a,b] (n*2)).toList[j*2]?=some a/\(madeCells #[a,b] (n*2)).toList[j*2+1]?=some b:=by
 constructor
 ·simp only [madeCells,Array.toList_map,List.getElem?_map,Array.toList_range]
  rw [List.getElem?_range (by omega)]
  simp
 ·simp only [madeCells,Array.toList_map,List.getElem?_map,Array.toList_range]
  rw [List.getElem?_range (by omega)]
  simp [Nat.add_mod]
def LinesTo (l:List Nd) (m:Nat) (xs:List Value):Prop :=
 ∀ j,j<l.length->(m<=j->xs[j*2]?=some (.string (lineAt l j).1)/\xs[j*2+1]?=some (.bool (lineAt l j).2))/\(j<m->xs[j*2]?=some (.string .empty)/\xs[j*2+1]?=some (.bool false))
theorem LinesTo.all {l:List Nd} {xs:List Value} (h:LinesTo l 0 xs) (hl:xs.length=l.length*2):xs=linesL l:=by
 have hlen:(linesL l).length=l.length*2:=by
  simp [linesL,lineV,List.map_const']
 apply List.ext_getElem?
 intro j
 by_cases hj:j<l.length*2
 ·have h1:=(h (j / 2) (by omega)).1 (Nat.zero_le _)
  have h2:=linesL_at l (j / 2) (by omega)
  have hj2:j=j / 2*2∨j=j / 2*2+1:=by omega
  rcases hj2 with e|e
  ·rw [e,h1.1,h2.1]
  ·rw [e,h1.2,h2.2]
 ·rw [List.getElem?_eq_none (by omega),List.getElem?_eq_none (by omega)]
theorem LinesTo.set {l:List Nd} {i:Nat} {xs:List Value} (h:LinesTo l (i+1) xs) (hi:i<l.length) (hl:xs.length=l.length*2) {s:ByteArray} {b:Bool} (he:lineAt l i=(s,b)) :
  LinesTo l i ((xs.set (i*2) (.string s)).set (i*2+1) (.bool b)):=by
 intro j hj
 rcases Nat.lt_trichotomy j i with hlt|rfl|hgt
 ·refine ⟨fun hh=>absurd hh (by omega),fun _=>?_⟩
  rw [List.getElem?_set_ne (by omega),List.getElem?_set_ne (by omega),List.getElem?_set_ne (by omega),List.getElem?_set_ne (by omega)]
  exact (h j hj).2 (by omega)
 ·refine ⟨fun _=>?_,fun hh=>absurd hh (by omega)⟩
  rw [List.getElem?_set_ne (by omega),List.getElem?_set_self (by omega),List.getElem?_set_self (by simp;omega),he]
  exact ⟨rfl,rfl⟩
 ·refine ⟨fun _=>?_,fun hh=>absurd hh (by omega)⟩
  rw [List.getElem?_set_ne (by omega),List.getElem?_set_ne (by omega),List.getElem?_set_ne (by omega),List.getElem?_set_ne (by omega)]
  exact (h j hj).1 (by omega)
theorem LinesTo.skip {l:List Nd} {i:Nat} {xs:List Value} (h:LinesTo l (i+1) xs) (he:lineAt l i=(.empty,false)):LinesTo l i xs:=by
 intro j hj
 refine ⟨fun hh=>?_,fun hh=>(h j hj).2 (by omega)⟩
 rcases Nat.eq_or_lt_of_le hh with rfl|hgt
 ·rw [he];exact (h _ hj).2 (by omega)
 ·exact (h j hj).1 (by omega)
theorem lines_round {w2 wr:World} {l:List Nd} {g e i:Nat} {xs:List Value} (ho:wr.ownsRow g e 2 (.slice (some ⟨g,0,none⟩) l.length l.length) l.length xs) (hx:LinesTo l (i+1) xs) (hi:i<l.length) (hB:Below g w2 wr)
  (hg:w2.grownBy wr (some g)) {s:ByteArray} {b:Bool} (he:lineAt l i=(s,b)) :
  ∃ (m:Nat) (xs:List Value),m<=l.length/\Value.int .i64 ((i:Int)-1)=.int .i64 ((m:Int)-1)/\((wr.setCell ⟨g,i*2,none⟩ (.string s)).setCell ⟨g,i*2+1,none⟩ (.bool b)).ownsRow g e 2 (.slice (some ⟨g,0,none⟩) l.length l.length) l.length xs /\
   LinesTo l m xs/\Below g w2 ((wr.setCell ⟨g,i*2,none⟩ (.string s)).setCell ⟨g,i*2+1,none⟩ (.bool b))/\w2.grownBy ((wr.setCell ⟨g,i*2,none⟩ (.string s)).setCell ⟨g,i*2+1,none⟩ (.bool b)) (some g):=by
 obtain ⟨h1,h2⟩:=ho.stored (i*2) (.string s)
 obtain ⟨h3,h4⟩:=h1.stored (i*2+1) (.bool b)
 exact ⟨i,_,by omega,rfl,h3,hx.set hi ho.1 he,(hB.setCell (Nat.le_refl _) _).setCell (Nat.le_refl _) _,grown_trans (grown_trans hg h2) h4⟩
theorem rq23 {P:Prop} (h:P:=by
 have hle:i+1<l.length/\lineAt l i=((lineAt l (i+1)).1,(lineAt l (i+1)).2):=by
  rcases HD.out.parts_ hi with ⟨h1,_⟩|⟨h1,h2,h3⟩|⟨h1,h2,_,h3⟩
  ·rw [HND.out] at h1;simp [parts] at h1
  ·exact ⟨h2,by rw [lineAt,h3];rfl⟩
  ·first
    | (rw [HND.out] at h1;simp [parts] at h1;done)
    | exact ⟨h2,by rw [lineAt,h3,HND.out];simp [D.flat,lineAt]⟩
 have hi1:=hle.1
 have HL:=hd_ hle.2;clear hle
 have hv1:wr.cell? ⟨g,(i+1)*2,none⟩=some (.string (lineAt l (i+1)).1):=by rw [HO.out.cellAt ((i+1)*2) (by omega)];exact ((HX.out (i+1) hi1).1 (Nat.le_refl _)).1
 have hv2:wr.cell? ⟨g,(i+1)*2+1,none⟩=some (.bool (lineAt l (i+1)).2):=by rw [HO.out.cellAt ((i+1)*2+1) (by omega)];exact ((HX.out (i+1) hi1).1 (Nat.le_refl _)).2
 go_wp2
 go_roundw
 case rel=>exact lines_round HO.out HX.out hi hBr hgr HL.out
 case measure=>simp [intOf]):P:=h
theorem lines_any (l:List Nd) (x:D) (A:Option Addr) (c:Nat) (w:World) (hl:Nds w w.heap.size A l) (hd:Doc l x) :
  Calls Tryz.prog 157 #[.slice A l.length c] w fun e w'=>∃ g:Nat,e=.returned (.slice (some ⟨g,0,none⟩) l.length l.length) /\
   w'.ownsRow w.heap.size 239 2 (.slice (some ⟨g,0,none⟩) l.length l.length) l.length (linesL l)/\Below w.heap.size w w':=by
 have h400:=hd.len
 obtain ⟨i0,hi0,hz0,hz1,hz2⟩:=info_parts line_info
 have HN:=hd_ hl;clear hl
 have HD:=hd_ hd;clear hd
 go_enter Tryz.func157,Tryz.ntmps157
 go_wp2_with (first
  | (at_make;refine wpList_make_full _ rfl (.tmp 7) (.tmp 7) 236 rfl w.heap.size 239 i0 (.agg #[.string .empty,.bool false]) 2 Tryz.underlying236 hi0 hz0 hz1 .i64 .i64 _ _ l.length rfl rfl rfl rfl (by rw [hz2];omega) (by simp only [maxLen];omega) (Nat.le_refl _) ?_;intro w1 hown hg;have hB1:Below w.heap.size w w1:=(Below.refl _ _).grown hg (Nat.le_refl _) (by simp);clear hi0 hz0 hz1 hz2 hg)
  | (go_at_call 156;refine (ends_any l x A c _ (HN.out.past hB1) HD.out).mono ?_;rintro e w2 ⟨g2,rfl,hown2,hB2⟩))
 obtain ⟨g,hge⟩:∃ g,g=w.heap.size:=⟨_,rfl⟩
 have hsz1:=hB1.size
 have hlt1:=(hown.lt w.heap.size rfl).2
 have hg2lt:=hown2.lt g2 rfl
 have hown':=hown.kept (w':=w2) (row:=none) ⟨hB2.os,hB2.tape,hB2.output,hB2.size,fun k hk _=>hB2.block k hk⟩ (.inr (by simp [Value.ownBlock]))
 have hB:=hB1.trans (hB2.mono hsz1)
 have hsz2:=hB2.size
 rw [← hge] at hown' hsz1 hlt1 ⊢
 have HG:=hd_ hge;clear hge hown
 have HE:=hd_ hown2;clear hown2
 have hg2:g<g2:=by omega
 go_loopw [5] (fun i wr=>∃ (m:Nat) (xs:List Value),m<=l.length/\i=.int .i64 ((m:Int)-1)/\wr.ownsRow g 239 2 (.slice (some ⟨g,0,none⟩) l.length l.length) l.length xs /\
   LinesTo l m xs/\Below g w2 wr/\w2.grownBy wr (some g)) (fun i _=>(intOf i+1).toNat)
 case atStart =>
  exact ⟨l.length,_,Nat.le_refl _,rfl,hown',fun j hj=>⟨fun h1=>absurd h1 (by omega),fun _=>made2 _ _ _ j hj⟩,Below.refl _ _,World.grownBy.refl _ _⟩
 case round =>
  obtain ⟨m,xs,hm,rfl,hown,hxs,hBr,hgr⟩:=hrel
  have HX:=hd_ hxs;clear hxs
  have HO:=hd_ hown;clear hown
  have hB':=hB.trans (HG.out▸hBr)
  cases m with
  | zero =>
   go_wp2
   go_ret
   refine ⟨g,rfl, ?_,hB'⟩
   rw [← HG.out,← HX.out.all HO.out.1]
   exact HO.out
  | succ i =>
   have hi:i<l.length:=by omega
   obtain ⟨b,off,op,t,n,rfl,hb,hnd,hts,d1,d2,d3⟩:=HN.out.node hB' hi
   have hone:=HD.out.one _ (List.getElem_mem hi)
   rw [hnd] at hone
   have hops:op=1∨op=2∨op=3∨op=4∨op=5∨op=6∨op=7∨op=8∨op=9:=by
    have h1:¬ (op<1∨9<op):=fun h=>by rw [oneF,if_pos h] at hone;cases hone
    omega
   have HND:=hd_ hnd;clear hnd hone
   rw [show (((i+1:Nat):Int)-1)=(i:Int) from by omega]
   have hlen:=HO.out.1
   have hi1:i*2<xs.length:=by omega
   have hi2:i*2+1<xs.length:=by omega
   obtain ⟨u1,hu1⟩:∃ u,wr.cell? ⟨g,i*2,none⟩=some u:=⟨_,by rw [HO.out.cellAt (i*2) (by omega)];exact List.getElem?_eq_getElem hi1⟩
   obtain ⟨u2,hu2⟩:∃ u,wr.cell? ⟨g,i*2+1,none⟩=some u:=⟨_,by rw [HO.out.cellAt (i*2+1) (by omega)];exact List.getElem?_eq_getElem hi2⟩
   have hf1:=HO.out.frozenAt (i*2)
   have hf2:=HO.out.frozenAt (i*2+1)
   clear hlen hi1 hi2
   rcases hops with rfl|rfl|rfl|rfl|rfl|rfl|rfl|rfl|rfl
   case inr.inr.inr.inr.inr.inl =>
    have hle:∃ q:Nat,i+1<l.length/\q<l.length/\i+1<q/\endAt l (i+1)=q/\lineAt l i=joinF (lineAt l (i+1)) (lineAt l q)/\(lineAt l (i+1)).1.size+(lineAt l q).1.size<=maxLen:=by
     rcases HD.out.parts_ hi with ⟨h1,_⟩|⟨h1,_⟩|⟨h1,h2,h3,h4⟩
     ·rw [HND.out] at h1;simp [parts] at h1
     ·rw [HND.out] at h1;simp [parts] at h1
     ·refine ⟨_,h2,h3,by have:=(docAt l (i+1)).sz_pos;omega,rfl, ?_, ?_⟩
      ·rw [lineAt,h4,HND.out]
       simp only [D.flat,lineAt,if_true]
       cases (docAt l (i+1)).flat <;> cases (docAt l (i+1+(docAt l (i+1)).sz)).flat <;> rfl
      ·have f1:=HD.out.flat_len h2
       have f2:=HD.out.flat_len h3
       have f3:=(HD.out.end_le h2).2
       have f4:=(HD.out.end_le h3).2
       unfold endAt at f3 f4
       unfold maxLen;omega
    obtain ⟨q,hi1,hq,hiq,hqe,hle,hlen⟩:=hle
    have HL:=hd_ hle;clear hle
    have hv1:wr.cell? ⟨g,(i+1)*2,none⟩=some (.string (lineAt l (i+1)).1):=by rw [HO.out.cellAt ((i+1)*2) (by omega)];exact ((HX.out (i+1) hi1).1 (Nat.le_refl _)).1
    have hv2:wr.cell? ⟨g,(i+1)*2+1,none⟩=some (.bool (lineAt l (i+1)).2):=by rw [HO.out.cellAt ((i+1)*2+1) (by omega)];exact ((HX.out (i+1) hi1).1 (Nat.le_refl _)).2
    have hv3:wr.cell? ⟨g,q*2,none⟩=some (.string (lineAt l q).1):=by rw [HO.out.cellAt (q*2) (by omega)];exact ((HX.out q hq).1 (by omega)).1
    have hv4:wr.cell? ⟨g,q*2+1,none⟩=some (.bool (lineAt l q).2):=by rw [HO.out.cellAt (q*2+1) (by omega)];exact ((HX.out q hq).1 (by omega)).2
    have hv5:wr.cell? ⟨g2,i+1,none⟩=some (.int .i64 (q:Nat)):=by
     rw [World.cell?_of_block (hgr.block g2 (by omega) (by simp;omega)),HE.out.cellAt (i+1) (by omega),← hqe];simp [endsL,hi1]
    have hgs:g<wr.heap.size:=by have:=hgr.size;omega
    have hg2s:g2<wr.heap.size:=by have:=hgr.size;omega
    have HQ:=hd_ hqe;clear hqe
    go_wp2
    have k1:IntKind.i64.wrap ((i:Int)+1)=(i:Int)+1:=IntWalk.i64_in _ (by omega)
    have k2:(0:Int)<=(i:Int)+1:=by omega
    have k3:((i:Int)+1).toNat=i+1:=by omega
    have k4:(i:Int)+1<(l.length:Int):=by omega
    have k5:(q:Int)<(l.length:Int):=by omega
    have k6:(0:Int)<=(q:Int):=by omega
    have k7:(i:Int)<(l.length:Int):=by omega
    have k8:(0:Int)<=(i:Int):=by omega
    generalize lineAt l (i+1)=L1 at *
    generalize lineAt l q=L2 at *
    go_region_held3 (fun w'=>w'.cell? ⟨g,(i+1)*2,none⟩=some (.string L1.1)/\w'.cell? ⟨g,(i+1)*2+1,none⟩=some (.bool L1.2)/\w'.cell? ⟨g,q*2,none⟩=some (.string L2.1)/\w'.cell? ⟨g,q*2+1,none⟩=some (.bool L2.2)/\w'.cell? ⟨g2,i+1,none⟩=some (.int .i64 (q:Nat)))
     (first|exact ⟨hv1,hv2,hv3,hv4,hv5⟩|exact ⟨(hBj.cell (p:=⟨g,_,none⟩) hgs).trans hv1,(hBj.cell (p:=⟨g,_,none⟩) hgs).trans hv2,(hBj.cell (p:=⟨g,_,none⟩) hgs).trans hv3,(hBj.cell (p:=⟨g,_,none⟩) hgs).trans hv4,(hBj.cell (p:=⟨g2,_,none⟩) hg2s).trans hv5⟩|(refine ⟨?_, ?_, ?_, ?_, ?_⟩ <;> rw [World.cell?_setCell_other _ _ _ _ (by first|(simp;done)|(simp;omega)),World.cell?_setCell_other _ _ _ _ (by first|(simp;done)|(simp;omega))] <;> first|exact (hBj.cell (p:=⟨g,_,none⟩) hgs).trans hv1|exact (hBj.cell (p:=⟨g,_,none⟩) hgs).trans hv2|exact (hBj.cell (p:=⟨g,_,none⟩) hgs).trans hv3|exact (hBj.cell (p:=⟨g,_,none⟩) hgs).trans hv4|exact (hBj.cell (p:=⟨g2,_,none⟩) hg2s).trans hv5))
     (first|(go_at_call 192;refine (join_any _ _ _ _ _ hlen).mono ?_;rintro e w3 ⟨rfl,hBj⟩;have hs1:=(hBj.cell (p:=⟨g,i*2,none⟩) hgs).trans hu1;have hs2:=(hBj.cell (p:=⟨g,i*2+1,none⟩) hgs).trans hu2;have hs3:=(hBj.frozen (p:=⟨g,i*2,none⟩) hgs).trans hf1;have hs4:=(hBj.frozen (p:=⟨g,i*2+1,none⟩) hgs).trans hf2))
    go_wp2
    go_roundw
    case rel=>exact lines_round (own_below HO.out (past_drew hBj)) HX.out hi (hBr.trans ((past_drew hBj).mono (Nat.le_of_lt hgs))) (grown_below hgr (past_drew hBj)) HL.out
    case measure=>simp [intOf]
   case inr.inr.inr.inl =>
    have hle:lineAt l i=(.empty,false):=by
     rcases HD.out.parts_ hi with ⟨h1,h2⟩|⟨h1,_⟩|⟨h1,_⟩
     ·rw [lineAt,h2,HND.out];rfl
     ·rw [HND.out] at h1;simp [parts] at h1
     ·rw [HND.out] at h1;simp [parts] at h1
    have HL:=hd_ hle;clear hle
    go_wp2
    go_roundw
    case rel=>exact ⟨i,xs,by omega,rfl,HO.out,HX.out.skip HL.out,hBr,hgr⟩
    case measure=>simp [intOf]
   case inr.inr.inr.inr.inr.inr.inl =>
    exact rq23
   case inr.inr.inr.inr.inr.inr.inr.inl =>
    exact rq23
   case inr.inr.inr.inr.inr.inr.inr.inr =>
    exact rq23
   all_goals
    have hle:lineAt l i=lineOf (D.flat (.leaf l[i])):=by
     rcases HD.out.parts_ hi with ⟨h1,h2⟩|⟨h1,_⟩|⟨h1,_⟩
     ·rw [lineAt,h2]
     ·rw [HND.out] at h1;simp [parts] at h1
     ·rw [HND.out] at h1;simp [parts] at h1
    have HL:=hd_ hle;clear hle
    go_wp2
    go_roundw
    case rel=>exact lines_round HO.out HX.out hi hBr hgr (HL.out.trans (by rw [HND.out];rfl))
    case measure=>simp [intOf]
end Go.Proofs.YtddfdmopaeghnadGreatDoor
