/- Walks of the reference's reader: is, want. With what it rests on. Conditions: as each theorem states them. -/
import Derived.Test.YtddfdmopaeghnadGreatDoorDqPs
import Derived.Test.YtddfdmopaeghnadGreatDoorDqLo
set_option maxRecDepth 100000
set_option maxHeartbeats 16000000
namespace Go.Proofs.YtddfdmopaeghnadGreatDoor
variable {P Q:Prop}
section
open Go.RowKit
structure aO_ (g:Nat) (W:Option Addr) (cw:Nat) (ws:List ByteArray) (k:Nat) (bad:Bool) (w:World):Prop where
 blk:w.heap[g]?=some (.cells #[.slice W ws.length cw,.int .i64 (k:Nat),.bool bad] 78 (0,0))
 txs:Txs w g W ws
 few:ws.length<=60000
section
variable {g cw k:Nat} {W:Option Addr} {ws:List ByteArray} {bad:Bool} {w w':World}
theorem aO_.lt (h:aO_ g W cw ws k bad w):g<w.heap.size:=(Array.getElem?_eq_some_iff.1 h.blk).1
theorem aO_.past (h:aO_ g W cw ws k bad w) (hb:Below w.heap.size w w'):aO_ g W cw ws k bad w' :=
 ⟨(hb.block g h.lt).trans h.blk,⟨h.txs.1.below hb (Nat.le_of_lt h.lt),h.txs.2⟩,h.few⟩
theorem aO_.cells (h:aO_ g W cw ws k bad w):w.cell? ⟨g,0,none⟩=some (.slice W ws.length cw)/\w.cell? ⟨g,1,none⟩=some (.int .i64 (k:Nat))/\w.cell? ⟨g,2,none⟩=some (.bool bad)/\w.frozen? ⟨g,1,none⟩=false/\w.frozen? ⟨g,2,none⟩=false:=by
 refine ⟨?_, ?_, ?_,Lib.frozen_of_heap h.blk 1,Lib.frozen_of_heap h.blk 2⟩ <;> rw [Lib.cell_of_heap h.blk] <;> rfl
theorem aO_.at_ (h:aO_ g W cw ws k bad w) (j:Nat) {v:Int} (hv:v=j):aO_ g W cw ws j bad (w.setCell ⟨g,1,none⟩ (.int .i64 v)):=by
 subst hv;exact ⟨by simp [World.setCell,Array.getElem?_modify,h.blk],⟨h.txs.1.below (nQ_ _ _ _ _) (Nat.le_refl _),h.txs.2⟩,h.few⟩
theorem aO_.bad_ (h:aO_ g W cw ws k bad w):aO_ g W cw ws k true (w.setCell ⟨g,2,none⟩ (.bool true)) :=
 ⟨by simp [World.setCell,Array.getElem?_modify,h.blk],⟨h.txs.1.below (nQ_ _ _ _ _) (Nat.le_refl _),h.txs.2⟩,h.few⟩
theorem aO_.word (h:aO_ g W cw ws k bad w) (hk:k<ws.length):∃ b off,W=some ⟨b,off,none⟩/\b<g/\w.cell? ⟨b,off+k,none⟩=some (.string (a3_ ws k)):=by
 obtain ⟨b,off,u,e,hb,hu,hc⟩:=h.txs.1.one (k:=k) hk;refine ⟨b,off,e,hb, ?_⟩;rw [j6_ hk,hc];rw [List.getElem?_map,List.getElem?_eq_getElem hk] at hu
 simpa using hu.symm
end
def gY_ (g:Nat) (W:Option Addr) (cw:Nat) (ws:List ByteArray) (k:Nat) (bad:Bool) (v:Value) (w:World) (e:Ending) (w':World):Prop :=
 e=.returned v/\aO_ g W cw ws k bad w'/\w.grownBy w' (some g)
theorem dG15 (h:P:=by
 go_enter Tryz.func29,Tryz.ntmps29;go_wp2;go_quiet (fail);go_wp2;go_ret;exact ⟨rfl,by first|exact eB_ (eB_ (Below.refl _ _))|exact eB_ (Below.refl _ _)⟩):P:=h
theorem kL_ {g cw k:Nat} {W:Option Addr} {ws:List ByteArray} {bad:Bool} (w:World) (hs:aO_ g W cw ws k bad w) (hk:k<=ws.length) (s:ByteArray) (hne:s.toList≠[]) :
  Calls Tryz.prog 29 #[.pointer (some ⟨g,0,none⟩),.string s] w (Ret w (.bool (!bad&&((a3_ ws k).toList==s.toList)))):=by
 obtain ⟨c0,c1,c2,-,-⟩:=hs.cells;have hg:=hs.lt;have hf:=hs.few
 cases bad with
 | true =>
  clear hs;generalize ws.length=n at *;simp only [Bool.not_true,Bool.false_and];exact dG15
 | false =>
  simp only [Bool.not_false,Bool.true_and]
  by_cases hlt:k<ws.length
  ·obtain ⟨b,off,rfl,hb,hw⟩:=hs.word hlt;generalize a3_ ws k=t at *;generalize ws.length=n at *;clear hs;have q2:decide ((k:Int)<(n:Int))=true:=decide_eq_true om_;have n3:decide (n<=k)=false:=by simp;omega
   have n4:decide ((k:Int)<0)=false:=by simp
   exact dG15
  ·have hwe:((a3_ ws k).toList==s.toList)=false:=by
    rw [j7_ om_]
    cases h:(ByteArray.empty.toList==s.toList) with
    | false=>rfl
    | true=>exact absurd (by rw [← eq_of_beq h];decide +kernel) hne
   rw [hwe];generalize ws.length=n at *;clear hs hwe;have q2:decide ((k:Int)<(n:Int))=false:=decide_eq_false om_;exact dG15
theorem pZ_ {g cw k:Nat} {W:Option Addr} {ws:List ByteArray} (w:World) (hs:aO_ g W cw ws k false w) (hk:k<=ws.length) (s:ByteArray) (hne:s.toList≠[]) (h:((a3_ ws k).toList==s.toList)=true) :
  Calls Tryz.prog 31 #[.pointer (some ⟨g,0,none⟩),.string s] w (gY_ g W cw ws (k+1) false (.tuple #[]) w):=by
 have HI:=hd_ (kL_ w hs hk s hne);rw [h] at HI;have HS:=hd_ hs;have hf:=hs.few;clear hs h hne;generalize ws.length=n at *;go_enter Tryz.func31,Tryz.ntmps31;go_wp2_with (go_at_call 29;refine HI.out.mono ?_;rintro e w1 ⟨rfl,hB⟩;have hs1:=HS.out.past hB;obtain ⟨-,c1,c2,f1,f2⟩:=hs1.cells;have HM:=hd_ hs1;have HG:Hid (w.grownBy w1 (some g)):=hd_ (gM_ _ hB);clear hB hs1)
 go_end0
 exact ⟨rfl,HM.out.at_ (k+1) (by go_num),a2_ HG.out (aU_ _ _ _ _)⟩
theorem i0_ {g cw k:Nat} {W:Option Addr} {ws:List ByteArray} {bad:Bool} (w:World) (hs:aO_ g W cw ws k bad w) (hk:k<=ws.length) (s:ByteArray) (hne:s.toList≠[]) (h:(!bad&&((a3_ ws k).toList==s.toList))=false) :
  Calls Tryz.prog 31 #[.pointer (some ⟨g,0,none⟩),.string s] w (gY_ g W cw ws k true (.tuple #[]) w):=by
 have HI:=hd_ (kL_ w hs hk s hne);rw [h] at HI;have HS:=hd_ hs;have hf:=hs.few;clear hs h hne;generalize ws.length=n at *;go_enter Tryz.func31,Tryz.ntmps31;go_wp2_with (go_at_call 29;refine HI.out.mono ?_;rintro e w1 ⟨rfl,hB⟩;have hs1:=HS.out.past hB;obtain ⟨-,c1,c2,f1,f2⟩:=hs1.cells;have HM:=hd_ hs1;have HG:Hid (w.grownBy w1 (some g)):=hd_ (gM_ _ hB);clear hB hs1)
 go_end0
 exact ⟨rfl,HM.out.bad_,a2_ HG.out (aU_ _ _ _ _)⟩
theorem aO_.under {g cw k C:Nat} {W:Option Addr} {ws:List ByteArray} {bad:Bool} {w w':World} (h:aO_ g W cw ws k bad w) (hb:Below C w w') (hC:g<C):aO_ g W cw ws k bad w' :=
 ⟨(hb.block g hC).trans h.blk,⟨h.txs.1.below hb (Nat.le_of_lt hC),h.txs.2⟩,h.few⟩
def e6_ (g:Nat) (W:Option Addr) (cw:Nat) (ws:List ByteArray) (k0:Nat) (r:PrR) (w:World) (e:Ending) (w':World):Prop :=
 match r with
 | .ok (d,k)=>∃ A c,e=.returned (.slice A d.length c)/\NdF w.heap.size w' A d/\aO_ g W cw ws k false w'/\w.grownBy w' (some g)
 | .error x=>∃ A c,∃ d:List Nd,e=.returned (.slice A d.length c)/\d.length+k0<=ws.length+1/\NdF w.heap.size w' A d/\aO_ g W cw ws x true w'/\w.grownBy w' (some g)
theorem dG12 (h:P:=by
 rw [hp] at H1 hR;simp only at hR;subst hR;have H1:=hd_ H1;clear hs hp hi0 hz0 hz1 hz2 HIS;go_enter Tryz.func32,Tryz.ntmps32;go_wp2_with (go_at_call 32;refine H1.out.mono ?_;rintro e w1 ⟨A1,c1,d0,rfl,hl1,hn1,hs1,hG1⟩;have HN:=hd_ hn1;have HM:=hd_ hs1;have HG:=hd_ hG1;clear hn1 hs1 hG1);go_loopw [5,7,8,9] (fun v _ _ _ wr=>v=.slice A1 d0.length c1/\wr=w1) (fun _ _ _ _ _=>0)
 case atStart=>exact ⟨rfl,rfl⟩
 case round =>
  obtain ⟨rfl,rfl⟩:=hrel;obtain ⟨-,-,c2,-,-⟩:=HM.out.cells;go_wp2;go_ret;exact ⟨A1,c1,d0,rfl,hl1,HN.out,HM.out,HG.out⟩):P:=h
theorem dG13 (h:P:=by
 have hres:R=.ok (out,k2):=by
  rw [HR.out]
  cases j with
  | zero=>rfl
  | succ j=>rw [bT_,if_neg (by rw [hw];decide)]
 unfold isW at hw;rw [hw] at HI;have HRES:=hd_ hres;clear hres hw;go_wp2_with (go_at_call 29;refine HI.out.mono ?_;rintro e w3 ⟨rfl,hB⟩;have HM:=hd_ (HM.out.past hB);have HG:=hd_ (a4_ HG.out hB);have HN:=hd_ (HN.out.past hB);clear hB);go_ret;rw [HRES.out];exact ⟨A2,c2,rfl,HN.out,HM.out,HG.out⟩):P:=h
theorem dG17 (h:P:=by
 ·obtain ⟨-,-,cb,-,-⟩:=HM.out.cells;go_wp2;go_ret;rw [HR.out];exact ⟨A2,c2,out,rfl,ho1,HN.out,HM.out,HG.out⟩):P:=h
theorem ak3_ {g cw:Nat} {W:Option Addr} {ws:List ByteArray} (part:Nat->PrR) (hgo:gU_ ws part) (k:Nat)
  (HPART:Hid (∀ (k':Nat) (w:World),aO_ g W cw ws k' false w->k<=k'->k'<=ws.length->Calls Tryz.prog 32 #[.pointer (some ⟨g,0,none⟩),.int .i64 1] w (e6_ g W cw ws k' (part k') w)))
  (w:World) (hs:aO_ g W cw ws k false w) (hk:k<=ws.length) :
  Calls Tryz.prog 32 #[.pointer (some ⟨g,0,none⟩),.int .i64 0] w (e6_ g W cw ws k (bW_ ws 5 [43] part k) w):=by
 obtain ⟨R,hR⟩:∃ R,R=bW_ ws 5 [43] part k:=⟨_,rfl⟩;rw [← hR];unfold bW_ at hR;have H1:=HPART.out k w hs (Nat.le_refl _) hk;obtain ⟨i0,hi0,hz0,hz1,hz2⟩:=info_parts eS_;have hf:=hs.few;have hgl:=hs.lt;have hex:(⟨#[43,42]⟩:ByteArray).extract 0 1=⟨#[43]⟩:=by decide +kernel
 have htl:(⟨#[43]⟩:ByteArray).toList=[43]:=by decide +kernel
 have HIS:=hd_ (fun (k':Nat) (w':World) (h':aO_ g W cw ws k' false w') (hk':k'<=ws.length)=>(by have:=kL_ w' h' hk' ⟨#[43]⟩ (by rw [htl];simp);rwa [htl] at this:Calls Tryz.prog 29 #[.pointer (some ⟨g,0,none⟩),.string ⟨#[43]⟩] w' (Ret w' (.bool (!false&&((a3_ ws k').toList==[43]))))));clear htl
 cases hp:part k with
 | error x =>
  exact dG12
 | ok r =>
  obtain ⟨d0,k1⟩:=r;rw [hp] at H1 hR;simp only at hR;obtain ⟨g1,g2,g3,g4⟩:=(hgo k hk).1 d0 k1 hp;have H1:=hd_ H1;have HGO:=hd_ hgo;have HR:=hd_ hR;clear hs hp hgo hR;go_enter Tryz.func32,Tryz.ntmps32;go_wp2_with (go_at_call 32;refine H1.out.mono ?_;rintro e w1 ⟨A1,c1,rfl,hn1,hs1,hG1⟩;have HN:=hd_ hn1;have HM:=hd_ hs1;have HG:=hd_ hG1;clear hn1 hs1 hG1);go_loopw [5,7,8,9] (fun v _ _ _ wr=>∃ (out:List Nd) (A2:Option Addr) (c2:Nat),v=.slice A2 out.length c2/\out.length+k<=ws.length+1/\w.heap.size<=wr.heap.size/\Hid (NdF w.heap.size wr A2 out)/\Hid (w.grownBy wr (some g))/\((∃ (k2 j:Nat),k<=k2/\k2<=ws.length/\ws.length<=k2+j/\out.length+k<=k2/\Hid (aO_ g W cw ws k2 false wr)/\Hid (R=bT_ ws 5 [43] part j out k2))∨(∃ x,Hid (aO_ g W cw ws x true wr)/\Hid (R=.error x)))) (fun v _ _ _ _=>60002-r9_ v)
  case atStart=>exact ⟨d0,A1,c1,rfl,by omega,HG.out.size,HN,HG,.inl ⟨k1,ws.length,by omega,g2,by omega,g3,HM,HR⟩⟩
  case round =>
   obtain ⟨out,A2,c2,rfl,ho1,hsz,HN,HG,hst⟩:=hrel
   rcases hst with ⟨k2,j,hk2,hl2,hj,ho,HM,HR⟩|⟨x,HM,HR⟩
   ·have HI:=hd_ (HIS.out k2 wr HM.out hl2);obtain ⟨-,-,cb,-,-⟩:=HM.out.cells
    cases hw:isW ws k2 [43] with
    | false =>
     exact dG13
    | true =>
     have hlt:k2<ws.length:=cH_ hw;obtain ⟨j,rfl⟩:∃ j',j=j'+1:=⟨j-1,by omega⟩;have HSE:Hid (∀ x,part (k2+1)=.error x->R=.error x):=hd_ (fun x hx=>by rw [HR.out,bT_,if_pos hw,hx]);have HSO:Hid (∀ x k',part (k2+1)=.ok (x,k')->R=bT_ ws 5 [43] part j (⟨5,.empty,0⟩::(out++x)) k'):=hd_ (fun x k' hx=>by rw [HR.out,bT_,if_pos hw,hx]);have HQ:=hd_ (fun w' h=>HPART.out (k2+1) w' h om_ hlt);have hgb:=HGO.out (k2+1) hlt;unfold isW at hw;rw [hw] at HI;clear hw;go_upto_region 9 with (go_at_call 29;refine HI.out.mono ?_;rintro e w3 ⟨rfl,hB⟩;have hs3:=HM.out.past hB;obtain ⟨-,q1,q2,f1,-⟩:=hs3.cells;have HM:=hd_ hs3;have HG:=hd_ (a4_ HG.out hB);have HN:=hd_ (HN.out.past hB);have hsz:=Nat.le_trans hsz hB.size;clear hB hs3);refine dN_ (fun w4=>aO_ g W cw ws (k2+1) false w4/\NdF w.heap.size w4 A2 out/\w.grownBy w4 (some g)) ⟨HM.out.at_ (k2+1) (by go_num),HN.out.grow (aU_ _ _ _ _) (fun k e=>by cases e;exact hgl),a2_ HG.out (aU_ _ _ _ _)⟩ ?_
     rintro w4 ⟨hs4,hn4,hG4⟩;have h4:w.heap.size<=w4.heap.size:=hG4.size;have H0:=hd_ (d3_ (w:=w4) (base:=w4.heap.size) (e:=61) (size:=3) (g:=w4.heap.size) (n:=1) #[.int .i64 5,.string .empty,.int .i64 0] rfl (Nat.le_refl _) (by simp [maxLen]) si_);have HA:=hd_ (hn4.1.1.alloc (.cells #[.int .i64 5,.string .empty,.int .i64 0] 61));have HT:Hid (∀ z ∈ out,z.text.size<=maxLen):=hd_ hn4.1.2.2;have HM:=hd_ hs4;have HG:=hd_ hG4;clear HN hs4 hn4 hG4 HI hsz cb
     cases hp:part (k2+1) with
     | error x0 =>
      have hst:=HSE.out x0 hp;have HQ':Hid (∀ w',aO_ g W cw ws (k2+1) false w'->Calls Tryz.prog 32 #[.pointer (some ⟨g,0,none⟩),.int .i64 1] w' (e6_ g W cw ws (k2+1) (.error x0) w')):=hd_ (fun w' h=>by have:=HQ.out w' h;rw [hp] at this;exact this);have HST:=hd_ hst;clear hp hst HQ hgb HSE HSO;go_wp2_with (first
       | (at_builtin;(fail_if_success have z:=T0);refine b4_ _ rfl (.tmp 43) (.tmp 44) _ rfl w4.heap.size 61 i0 _ 3 32 Tryz.underlying59 hi0 hz0 hz1 hz2 rfl om_ _ 1 _ rfl H0.out _ A2 out.length c2 _ rfl HA.out (e1_ out) (by simp only [maxLen];omega) om_ si_ ?_;intro v7 w7 hown7 hg7 hat7;clear hat7;have hB7:Below w4.heap.size w4 w7:=bA_ (aE_) H0.out hg7 si_ (Nat.le_refl _);obtain ⟨A7,c7,hv7⟩:=b7_ hown7;subst hv7;have HM:=hd_ (HM.out.past hB7);have HG:=hd_ (a4_ HG.out hB7);have h7:=hB7.size;have H7:=hd_ hown7;clear hown7 hg7 hB7;have T0:=hd_ True.intro)
       | (go_at_call 32;refine (HQ'.out _ HM.out).mono ?_;rintro e w8 ⟨A8,c8,x,rfl,hl8,hn8,hs8,hG8⟩;have HG:=hd_ (a2_ HG.out hG8);have HM:=hd_ hs8;have HX:=hd_ hn8;have H7:=hd_ (cD_ H7.out hG8 (Nat.lt_of_lt_of_le hgl h4));have h8:=hG8.size;clear hn8 hs8 hG8)
       | (at_builtin;have z:=T0;clear z;refine b4_ _ rfl (.tmp 50) (.tmp 51) _ rfl w4.heap.size 61 i0 _ 3 32 Tryz.underlying59 hi0 hz0 hz1 hz2 rfl om_ _ (1+out.length) _ rfl H7.out _ A8 x.length c8 _ rfl HX.out.1.1 (e1_ x) (by simp only [maxLen];omega) om_ om_ ?_;intro v9 w9 hown9 hg9 hat9;clear hat9;have hB9:Below w4.heap.size w8 w9:=bA_ (Below.refl _ _) H7.out hg9 om_ (Nat.le_refl _);obtain ⟨A9,c9,hv9⟩:=b7_ hown9;subst hv9;have HM:=hd_ (HM.out.under hB9 om_);have HG:=hd_ (c2_ HG.out hB9 h4);have H9:=hd_ hown9;have h9:=hB9.size;clear hown9 hg9 hB9))
      have hlen:(⟨5,.empty,0⟩::(out++x):List Nd).length=1+out.length+x.length:=by simp;omega
      have hnd:NdF w.heap.size w9 A9 (⟨5,.empty,0⟩::(out++x)):=NdF.less (NdF.ownT (n:=1+out.length+x.length) (c:=c9) (by
       have:=H9.out;rw [List.flatMap_cons,List.flatMap_append]
       simpa [cJ_] using this) hlen.symm (by rw [hlen];simp only [maxLen];omega) (by
       intro z hz;simp only [List.mem_cons,List.mem_append] at hz
       rcases hz with rfl|hz|hz
       ·simp [maxLen]
       ·exact HT.out z hz
       ·exact HX.out.1.2.2 z hz)) h4
      have HND:=hd_ hnd;clear hnd;go_roundw
      case measure=>simp [r9_];omega
      case rel=>exact ⟨⟨5,.empty,0⟩::(out++x),A9,c9,by rw [hlen],by omega,HG.out.size,HND,HG,.inr ⟨x0,HM,HST⟩⟩
     | ok r =>
      obtain ⟨x,k3⟩:=r;obtain ⟨b1,b2,b3,b4⟩:=hgb.1 x k3 hp;have hst:=HSO.out x k3 hp;have HQ':Hid (∀ w',aO_ g W cw ws (k2+1) false w'->Calls Tryz.prog 32 #[.pointer (some ⟨g,0,none⟩),.int .i64 1] w' (e6_ g W cw ws (k2+1) (.ok (x,k3)) w')):=hd_ (fun w' h=>by have:=HQ.out w' h;rw [hp] at this;exact this);have HST:=hd_ hst;clear hp hst HQ hgb HSE HSO;go_wp2_with (first
       | (at_builtin;(fail_if_success have z:=T0);refine b4_ _ rfl (.tmp 43) (.tmp 44) _ rfl w4.heap.size 61 i0 _ 3 32 Tryz.underlying59 hi0 hz0 hz1 hz2 rfl om_ _ 1 _ rfl H0.out _ A2 out.length c2 _ rfl HA.out (e1_ out) (by simp only [maxLen];omega) om_ si_ ?_;intro v7 w7 hown7 hg7 hat7;clear hat7;have hB7:Below w4.heap.size w4 w7:=bA_ (aE_) H0.out hg7 si_ (Nat.le_refl _);obtain ⟨A7,c7,hv7⟩:=b7_ hown7;subst hv7;have HM:=hd_ (HM.out.past hB7);have HG:=hd_ (a4_ HG.out hB7);have h7:=hB7.size;have H7:=hd_ hown7;clear hown7 hg7 hB7;have T0:=hd_ True.intro)
       | (go_at_call 32;refine (HQ'.out _ HM.out).mono ?_;rintro e w8 ⟨A8,c8,rfl,hn8,hs8,hG8⟩;have HG:=hd_ (a2_ HG.out hG8);have HM:=hd_ hs8;have HX:=hd_ hn8;have H7:=hd_ (cD_ H7.out hG8 (Nat.lt_of_lt_of_le hgl h4));have h8:=hG8.size;clear hn8 hs8 hG8)
       | (at_builtin;have z:=T0;clear z;refine b4_ _ rfl (.tmp 50) (.tmp 51) _ rfl w4.heap.size 61 i0 _ 3 32 Tryz.underlying59 hi0 hz0 hz1 hz2 rfl om_ _ (1+out.length) _ rfl H7.out _ A8 x.length c8 _ rfl HX.out.1.1 (e1_ x) (by simp only [maxLen];omega) om_ om_ ?_;intro v9 w9 hown9 hg9 hat9;clear hat9;have hB9:Below w4.heap.size w8 w9:=bA_ (Below.refl _ _) H7.out hg9 om_ (Nat.le_refl _);obtain ⟨A9,c9,hv9⟩:=b7_ hown9;subst hv9;have HM:=hd_ (HM.out.under hB9 om_);have HG:=hd_ (c2_ HG.out hB9 h4);have H9:=hd_ hown9;have h9:=hB9.size;clear hown9 hg9 hB9))
      have hlen:(⟨5,.empty,0⟩::(out++x):List Nd).length=1+out.length+x.length:=by simp;omega
      have hnd:NdF w.heap.size w9 A9 (⟨5,.empty,0⟩::(out++x)):=NdF.less (NdF.ownT (n:=1+out.length+x.length) (c:=c9) (by
       have:=H9.out;rw [List.flatMap_cons,List.flatMap_append]
       simpa [cJ_] using this) hlen.symm (by rw [hlen];simp only [maxLen];omega) (by
       intro z hz;simp only [List.mem_cons,List.mem_append] at hz
       rcases hz with rfl|hz|hz
       ·simp [maxLen]
       ·exact HT.out z hz
       ·exact HX.out.1.2.2 z hz)) h4
      have HND:=hd_ hnd;clear hnd;go_roundw
      case measure=>simp [r9_];omega
      case rel=>exact ⟨⟨5,.empty,0⟩::(out++x),A9,c9,by rw [hlen],by omega,HG.out.size,HND,HG,.inl ⟨k3,j,by omega,b2,by omega,by omega,HM,HST⟩⟩
   exact dG17
theorem ak4_ {g cw:Nat} {W:Option Addr} {ws:List ByteArray} (part:Nat->PrR) (hgo:gU_ ws part) (k:Nat)
  (HPART:Hid (∀ (k':Nat) (w:World),aO_ g W cw ws k' false w->k<=k'->k'<=ws.length->Calls Tryz.prog 32 #[.pointer (some ⟨g,0,none⟩),.int .i64 2] w (e6_ g W cw ws k' (part k') w)))
  (w:World) (hs:aO_ g W cw ws k false w) (hk:k<=ws.length) :
  Calls Tryz.prog 32 #[.pointer (some ⟨g,0,none⟩),.int .i64 1] w (e6_ g W cw ws k (bW_ ws 6 [42] part k) w):=by
 obtain ⟨R,hR⟩:∃ R,R=bW_ ws 6 [42] part k:=⟨_,rfl⟩;rw [← hR];unfold bW_ at hR;have H1:=HPART.out k w hs (Nat.le_refl _) hk;obtain ⟨i0,hi0,hz0,hz1,hz2⟩:=info_parts eS_;have hf:=hs.few;have hgl:=hs.lt;have hex:(⟨#[43,42]⟩:ByteArray).extract 1 2=⟨#[42]⟩:=by decide +kernel
 have htl:(⟨#[42]⟩:ByteArray).toList=[42]:=by decide +kernel
 have HIS:=hd_ (fun (k':Nat) (w':World) (h':aO_ g W cw ws k' false w') (hk':k'<=ws.length)=>(by have:=kL_ w' h' hk' ⟨#[42]⟩ (by rw [htl];simp);rwa [htl] at this:Calls Tryz.prog 29 #[.pointer (some ⟨g,0,none⟩),.string ⟨#[42]⟩] w' (Ret w' (.bool (!false&&((a3_ ws k').toList==[42]))))));clear htl
 cases hp:part k with
 | error x =>
  exact dG12
 | ok r =>
  obtain ⟨d0,k1⟩:=r;rw [hp] at H1 hR;simp only at hR;obtain ⟨g1,g2,g3,g4⟩:=(hgo k hk).1 d0 k1 hp;have H1:=hd_ H1;have HGO:=hd_ hgo;have HR:=hd_ hR;clear hs hp hgo hR;go_enter Tryz.func32,Tryz.ntmps32;go_wp2_with (go_at_call 32;refine H1.out.mono ?_;rintro e w1 ⟨A1,c1,rfl,hn1,hs1,hG1⟩;have HN:=hd_ hn1;have HM:=hd_ hs1;have HG:=hd_ hG1;clear hn1 hs1 hG1);go_loopw [5,7,8,9] (fun v _ _ _ wr=>∃ (out:List Nd) (A2:Option Addr) (c2:Nat),v=.slice A2 out.length c2/\out.length+k<=ws.length+1/\w.heap.size<=wr.heap.size/\Hid (NdF w.heap.size wr A2 out)/\Hid (w.grownBy wr (some g))/\((∃ (k2 j:Nat),k<=k2/\k2<=ws.length/\ws.length<=k2+j/\out.length+k<=k2/\Hid (aO_ g W cw ws k2 false wr)/\Hid (R=bT_ ws 6 [42] part j out k2))∨(∃ x,Hid (aO_ g W cw ws x true wr)/\Hid (R=.error x)))) (fun v _ _ _ _=>60002-r9_ v)
  case atStart=>exact ⟨d0,A1,c1,rfl,by omega,HG.out.size,HN,HG,.inl ⟨k1,ws.length,by omega,g2,by omega,g3,HM,HR⟩⟩
  case round =>
   obtain ⟨out,A2,c2,rfl,ho1,hsz,HN,HG,hst⟩:=hrel
   rcases hst with ⟨k2,j,hk2,hl2,hj,ho,HM,HR⟩|⟨x,HM,HR⟩
   ·have HI:=hd_ (HIS.out k2 wr HM.out hl2);obtain ⟨-,-,cb,-,-⟩:=HM.out.cells
    cases hw:isW ws k2 [42] with
    | false =>
     exact dG13
    | true =>
     have hlt:k2<ws.length:=cH_ hw;obtain ⟨j,rfl⟩:∃ j',j=j'+1:=⟨j-1,by omega⟩;have HSE:Hid (∀ x,part (k2+1)=.error x->R=.error x):=hd_ (fun x hx=>by rw [HR.out,bT_,if_pos hw,hx]);have HSO:Hid (∀ x k',part (k2+1)=.ok (x,k')->R=bT_ ws 6 [42] part j (⟨6,.empty,0⟩::(out++x)) k'):=hd_ (fun x k' hx=>by rw [HR.out,bT_,if_pos hw,hx]);have HQ:=hd_ (fun w' h=>HPART.out (k2+1) w' h om_ hlt);have hgb:=HGO.out (k2+1) hlt;unfold isW at hw;rw [hw] at HI;clear hw;go_upto_region 9 with (go_at_call 29;refine HI.out.mono ?_;rintro e w3 ⟨rfl,hB⟩;have hs3:=HM.out.past hB;obtain ⟨-,q1,q2,f1,-⟩:=hs3.cells;have HM:=hd_ hs3;have HG:=hd_ (a4_ HG.out hB);have HN:=hd_ (HN.out.past hB);have hsz:=Nat.le_trans hsz hB.size;clear hB hs3);refine dN_ (fun w4=>aO_ g W cw ws (k2+1) false w4/\NdF w.heap.size w4 A2 out/\w.grownBy w4 (some g)) ⟨HM.out.at_ (k2+1) (by go_num),HN.out.grow (aU_ _ _ _ _) (fun k e=>by cases e;exact hgl),a2_ HG.out (aU_ _ _ _ _)⟩ ?_
     rintro w4 ⟨hs4,hn4,hG4⟩;have h4:w.heap.size<=w4.heap.size:=hG4.size;have H0:=hd_ (d3_ (w:=w4) (base:=w4.heap.size) (e:=61) (size:=3) (g:=w4.heap.size) (n:=1) #[.int .i64 6,.string .empty,.int .i64 0] rfl (Nat.le_refl _) (by simp [maxLen]) si_);have HA:=hd_ (hn4.1.1.alloc (.cells #[.int .i64 6,.string .empty,.int .i64 0] 61));have HT:Hid (∀ z ∈ out,z.text.size<=maxLen):=hd_ hn4.1.2.2;have HM:=hd_ hs4;have HG:=hd_ hG4;clear HN hs4 hn4 hG4 HI hsz cb
     cases hp:part (k2+1) with
     | error x0 =>
      have hst:=HSE.out x0 hp;have HQ':Hid (∀ w',aO_ g W cw ws (k2+1) false w'->Calls Tryz.prog 32 #[.pointer (some ⟨g,0,none⟩),.int .i64 2] w' (e6_ g W cw ws (k2+1) (.error x0) w')):=hd_ (fun w' h=>by have:=HQ.out w' h;rw [hp] at this;exact this);have HST:=hd_ hst;clear hp hst HQ hgb HSE HSO;go_wp2_with (first
       | (at_builtin;(fail_if_success have z:=T0);refine b4_ _ rfl (.tmp 43) (.tmp 44) _ rfl w4.heap.size 61 i0 _ 3 32 Tryz.underlying59 hi0 hz0 hz1 hz2 rfl om_ _ 1 _ rfl H0.out _ A2 out.length c2 _ rfl HA.out (e1_ out) (by simp only [maxLen];omega) om_ si_ ?_;intro v7 w7 hown7 hg7 hat7;clear hat7;have hB7:Below w4.heap.size w4 w7:=bA_ (aE_) H0.out hg7 si_ (Nat.le_refl _);obtain ⟨A7,c7,hv7⟩:=b7_ hown7;subst hv7;have HM:=hd_ (HM.out.past hB7);have HG:=hd_ (a4_ HG.out hB7);have h7:=hB7.size;have H7:=hd_ hown7;clear hown7 hg7 hB7;have T0:=hd_ True.intro)
       | (go_at_call 32;refine (HQ'.out _ HM.out).mono ?_;rintro e w8 ⟨A8,c8,x,rfl,hl8,hn8,hs8,hG8⟩;have HG:=hd_ (a2_ HG.out hG8);have HM:=hd_ hs8;have HX:=hd_ hn8;have H7:=hd_ (cD_ H7.out hG8 (Nat.lt_of_lt_of_le hgl h4));have h8:=hG8.size;clear hn8 hs8 hG8)
       | (at_builtin;have z:=T0;clear z;refine b4_ _ rfl (.tmp 50) (.tmp 51) _ rfl w4.heap.size 61 i0 _ 3 32 Tryz.underlying59 hi0 hz0 hz1 hz2 rfl om_ _ (1+out.length) _ rfl H7.out _ A8 x.length c8 _ rfl HX.out.1.1 (e1_ x) (by simp only [maxLen];omega) om_ om_ ?_;intro v9 w9 hown9 hg9 hat9;clear hat9;have hB9:Below w4.heap.size w8 w9:=bA_ (Below.refl _ _) H7.out hg9 om_ (Nat.le_refl _);obtain ⟨A9,c9,hv9⟩:=b7_ hown9;subst hv9;have HM:=hd_ (HM.out.under hB9 om_);have HG:=hd_ (c2_ HG.out hB9 h4);have H9:=hd_ hown9;have h9:=hB9.size;clear hown9 hg9 hB9))
      have hlen:(⟨6,.empty,0⟩::(out++x):List Nd).length=1+out.length+x.length:=by simp;omega
      have hnd:NdF w.heap.size w9 A9 (⟨6,.empty,0⟩::(out++x)):=NdF.less (NdF.ownT (n:=1+out.length+x.length) (c:=c9) (by
       have:=H9.out;rw [List.flatMap_cons,List.flatMap_append]
       simpa [cJ_] using this) hlen.symm (by rw [hlen];simp only [maxLen];omega) (by
       intro z hz;simp only [List.mem_cons,List.mem_append] at hz
       rcases hz with rfl|hz|hz
       ·simp [maxLen]
       ·exact HT.out z hz
       ·exact HX.out.1.2.2 z hz)) h4
      have HND:=hd_ hnd;clear hnd;go_roundw
      case measure=>simp [r9_];omega
      case rel=>exact ⟨⟨6,.empty,0⟩::(out++x),A9,c9,by rw [hlen],by omega,HG.out.size,HND,HG,.inr ⟨x0,HM,HST⟩⟩
     | ok r =>
      obtain ⟨x,k3⟩:=r;obtain ⟨b1,b2,b3,b4⟩:=hgb.1 x k3 hp;have hst:=HSO.out x k3 hp;have HQ':Hid (∀ w',aO_ g W cw ws (k2+1) false w'->Calls Tryz.prog 32 #[.pointer (some ⟨g,0,none⟩),.int .i64 2] w' (e6_ g W cw ws (k2+1) (.ok (x,k3)) w')):=hd_ (fun w' h=>by have:=HQ.out w' h;rw [hp] at this;exact this);have HST:=hd_ hst;clear hp hst HQ hgb HSE HSO;go_wp2_with (first
       | (at_builtin;(fail_if_success have z:=T0);refine b4_ _ rfl (.tmp 43) (.tmp 44) _ rfl w4.heap.size 61 i0 _ 3 32 Tryz.underlying59 hi0 hz0 hz1 hz2 rfl om_ _ 1 _ rfl H0.out _ A2 out.length c2 _ rfl HA.out (e1_ out) (by simp only [maxLen];omega) om_ si_ ?_;intro v7 w7 hown7 hg7 hat7;clear hat7;have hB7:Below w4.heap.size w4 w7:=bA_ (aE_) H0.out hg7 si_ (Nat.le_refl _);obtain ⟨A7,c7,hv7⟩:=b7_ hown7;subst hv7;have HM:=hd_ (HM.out.past hB7);have HG:=hd_ (a4_ HG.out hB7);have h7:=hB7.size;have H7:=hd_ hown7;clear hown7 hg7 hB7;have T0:=hd_ True.intro)
       | (go_at_call 32;refine (HQ'.out _ HM.out).mono ?_;rintro e w8 ⟨A8,c8,rfl,hn8,hs8,hG8⟩;have HG:=hd_ (a2_ HG.out hG8);have HM:=hd_ hs8;have HX:=hd_ hn8;have H7:=hd_ (cD_ H7.out hG8 (Nat.lt_of_lt_of_le hgl h4));have h8:=hG8.size;clear hn8 hs8 hG8)
       | (at_builtin;have z:=T0;clear z;refine b4_ _ rfl (.tmp 50) (.tmp 51) _ rfl w4.heap.size 61 i0 _ 3 32 Tryz.underlying59 hi0 hz0 hz1 hz2 rfl om_ _ (1+out.length) _ rfl H7.out _ A8 x.length c8 _ rfl HX.out.1.1 (e1_ x) (by simp only [maxLen];omega) om_ om_ ?_;intro v9 w9 hown9 hg9 hat9;clear hat9;have hB9:Below w4.heap.size w8 w9:=bA_ (Below.refl _ _) H7.out hg9 om_ (Nat.le_refl _);obtain ⟨A9,c9,hv9⟩:=b7_ hown9;subst hv9;have HM:=hd_ (HM.out.under hB9 om_);have HG:=hd_ (c2_ HG.out hB9 h4);have H9:=hd_ hown9;have h9:=hB9.size;clear hown9 hg9 hB9))
      have hlen:(⟨6,.empty,0⟩::(out++x):List Nd).length=1+out.length+x.length:=by simp;omega
      have hnd:NdF w.heap.size w9 A9 (⟨6,.empty,0⟩::(out++x)):=NdF.less (NdF.ownT (n:=1+out.length+x.length) (c:=c9) (by
       have:=H9.out;rw [List.flatMap_cons,List.flatMap_append]
       simpa [cJ_] using this) hlen.symm (by rw [hlen];simp only [maxLen];omega) (by
       intro z hz;simp only [List.mem_cons,List.mem_append] at hz
       rcases hz with rfl|hz|hz
       ·simp [maxLen]
       ·exact HT.out z hz
       ·exact HX.out.1.2.2 z hz)) h4
      have HND:=hd_ hnd;clear hnd;go_roundw
      case measure=>simp [r9_];omega
      case rel=>exact ⟨⟨6,.empty,0⟩::(out++x),A9,c9,by rw [hlen],by omega,HG.out.size,HND,HG,.inl ⟨k3,j,by omega,b2,by omega,by omega,HM,HST⟩⟩
   exact dG17
theorem dG16 (h:P:=by
 clear hs h;generalize ws.length=n at *;go_enter Tryz.func55,Tryz.ntmps55;go_wp2;go_quiet (fail);go_wp2;go_ret;exact ⟨rfl,by first|exact (HS.out.past (below_drewN (Below.refl _ _) _)).bad_|exact HS.out.bad_,by first|exact a2_ (gM_ _ (below_drewN (Below.refl _ _) _)) (aU_ _ _ _ _)|exact aU_ _ _ _ _⟩):P:=h
theorem p0_ {g cw k:Nat} {W:Option Addr} {ws:List ByteArray} {bad:Bool} (w:World) (hs:aO_ g W cw ws k bad w) (h:bad=true∨k=ws.length) :
  Calls Tryz.prog 55 #[.pointer (some ⟨g,0,none⟩)] w (gY_ g W cw ws k true (.slice none 0 0) w):=by
 obtain ⟨c0,c1,c2,f1,f2⟩:=hs.cells;have HS:=hd_ hs;have hg:=hs.lt;have hf:=hs.few;have HF2:Hid (∀ m,(w.drewN m).frozen? ⟨g,2,none⟩=false):=hd_ (fun m=>(hs.past (below_drewN (Below.refl _ _) m)).cells.2.2.2.2)
 cases bad with
 | true =>
  exact dG16
 | false =>
  have hkl:k=ws.length:=by simpa using h
  have q2:decide ((ws.length:Int)<=(k:Int))=true:=decide_eq_true om_;exact dG16
theorem zZ_ {g cw k:Nat} {W:Option Addr} {ws:List ByteArray} (w:World) (hs:aO_ g W cw ws k true w) :
  Calls Tryz.prog 32 #[.pointer (some ⟨g,0,none⟩),.int .i64 2] w (gY_ g W cw ws k true (.slice none 0 0) w):=by
 have H:=hd_ (p0_ w hs (.inl rfl));clear hs;go_enter Tryz.func32,Tryz.ntmps32;go_wp2_with (go_at_call 55;refine H.out.mono ?_;rintro e w1 ⟨rfl,hs1,hG1⟩);go_ret;exact ⟨rfl,hs1,hG1⟩
theorem dG14 (h:P:=by
 clear hs;go_enter Tryz.func32,Tryz.ntmps32;go_wp2_with (go_at_call 32;refine H.out.mono ?_;rintro e w1 ⟨rfl,hs1,hG1⟩;have HM:=hd_ hs1;have HG:=hd_ hG1;clear hs1 hG1);go_loopw [5,7,8,9] (fun v _ _ _ wr=>v=.slice none 0 0/\wr=w1) (fun _ _ _ _ _=>0)
 case atStart=>exact ⟨rfl,rfl⟩
 case round =>
  obtain ⟨rfl,rfl⟩:=hrel;obtain ⟨-,-,c2,-,-⟩:=HM.out.cells;go_wp2;go_ret;exact ⟨rfl,HM.out,HG.out⟩):P:=h
theorem zY_ {g cw k:Nat} {W:Option Addr} {ws:List ByteArray} (w:World) (hs:aO_ g W cw ws k true w) :
  Calls Tryz.prog 32 #[.pointer (some ⟨g,0,none⟩),.int .i64 1] w (gY_ g W cw ws k true (.slice none 0 0) w):=by
 have H:=hd_ (zZ_ w hs);have hex:(⟨#[43,42]⟩:ByteArray).extract 1 2=⟨#[42]⟩:=by decide +kernel
 exact dG14
theorem qC_ {g cw k:Nat} {W:Option Addr} {ws:List ByteArray} (w:World) (hs:aO_ g W cw ws k true w) :
  Calls Tryz.prog 32 #[.pointer (some ⟨g,0,none⟩),.int .i64 0] w (gY_ g W cw ws k true (.slice none 0 0) w):=by
 have H:=hd_ (zY_ w hs);have hex:(⟨#[43,42]⟩:ByteArray).extract 0 1=⟨#[43]⟩:=by decide +kernel
 exact dG14
def rD_ (g:Nat) (W:Option Addr) (cw:Nat) (ws:List ByteArray) (r:Except Nat (Nat × List Nd × Nat)) (w:World) (e:Ending) (w':World):Prop :=
 match r with
 | .ok (n,d,k)=>∃ A c,e=.returned (.tuple #[.int .i64 (n:Nat),.slice A d.length c])/\NdF w.heap.size w' A d/\aO_ g W cw ws k false w'/\w.grownBy w' (some g)
 | .error x=>e=.returned (.tuple #[.int .i64 0,.slice none 0 0])/\aO_ g W cw ws x true w'/\w.grownBy w' (some g)
theorem vB_ {g cw:Nat} {W:Option Addr} {ws:List ByteArray} (s:Nat->PrR) (hgo:gU_ ws s) (ed:ByteArray) (h0:ed.toList≠[]) (k:Nat)
  (HSUM:Hid (∀ (k':Nat) (w:World),aO_ g W cw ws k' false w->k<=k'->k'<=ws.length->Calls Tryz.prog 32 #[.pointer (some ⟨g,0,none⟩),.int .i64 0] w (e6_ g W cw ws k' (s k') w)))
  (w:World) (hs:aO_ g W cw ws k false w) (hk:k<=ws.length) :
  Calls Tryz.prog 107 #[.pointer (some ⟨g,0,none⟩),.string ed] w (rD_ g W cw ws (c0_ ws ed.toList s (ws.length+1) 0 [] k) w):=by
 obtain ⟨R,hR⟩:∃ R,R=c0_ ws ed.toList s (ws.length+1) 0 [] k:=⟨_,rfl⟩;rw [← hR];obtain ⟨i0,hi0,hz0,hz1,hz2⟩:=info_parts eS_;have hf:=hs.few;have hgl:=hs.lt;have h44:(⟨#[44]⟩:ByteArray).toList=[44]:=by decide +kernel
 have HM:=hd_ hs;have HGO:=hd_ hgo;have HR:=hd_ hR;have H44:=hd_ h44;have HIS:=hd_ (fun (k':Nat) (w':World) (h':aO_ g W cw ws k' false w') (hk':k'<=ws.length)=>(kL_ w' h' hk' ed h0:Calls Tryz.prog 29 #[.pointer (some ⟨g,0,none⟩),.string ed] w' (Ret w' (.bool (!false&&((a3_ ws k').toList==ed.toList))))));clear hs hgo hR h44;go_enter Tryz.func107,Tryz.ntmps107;go_wp2;go_loopw [6,7,8,9] (fun v i _ _ wr=>∃ n:Nat,i=.int .i64 (n:Nat)/\n<=60001/\w.heap.size<=wr.heap.size/\Hid (w.grownBy wr (some g))/\((∃ (out:List Nd) (k2 j:Nat) (A2:Option Addr) (c2:Nat),v=.slice A2 out.length c2/\k<=k2/\k2<=ws.length/\ws.length+1<=k2+j/\out.length+k<=k2/\n<=out.length/\Hid (wr.ownsRow w.heap.size 61 3 (.slice A2 out.length c2) out.length (out.flatMap cJ_))/\Hid (∀ z ∈ out,z.text.size<=maxLen)/\Hid (aO_ g W cw ws k2 false wr)/\Hid (R=c0_ ws ed.toList s j n out k2))∨(∃ (v2:Value) (x:Nat),v=v2/\Hid (aO_ g W cw ws x true wr)/\Hid (R=.error x)))) (fun _ i _ _ _=>60002-(intOf i).toNat)
 case atStart=>exact ⟨0,rfl,by omega,Nat.le_refl _,hd_ (World.grownBy.refl _ _),.inl ⟨[],k,ws.length+1,none,0,rfl,Nat.le_refl _,hk,by omega,by simp,by simp,hd_ (World.ownsRow_nil _ _ _ _),hd_ si_,HM,HR⟩⟩
 case round =>
  obtain ⟨n,rfl,hn6,hsz,HG,hst⟩:=hrel
  rcases hst with ⟨out,k2,j,A2,c2,rfl,hk2,hl2,hj,ho,hno,HN,HT,HM,HR⟩|⟨v2,x,rfl,HM,HR⟩
  ·have HI:=hd_ (HIS.out k2 wr HM.out hl2);obtain ⟨-,-,cb,-,-⟩:=HM.out.cells;obtain ⟨j,rfl⟩:∃ j',j=j'+1:=⟨j-1,by omega⟩
   cases hw:isW ws k2 ed.toList with
   | true =>
    have HRES:=hd_ (HR.out.trans (uU_ hw));have hlt:k2<ws.length:=by
     cases hc:ed.toList with
     | nil=>exact absurd hc h0
     | cons c r=>rw [hc] at hw;exact cH_ hw
    unfold isW at hw;rw [hw] at HI;clear hw;go_wp2_with (go_at_call 29;refine HI.out.mono ?_;rintro e w3 ⟨rfl,hB⟩;have hs3:=HM.out.past hB;obtain ⟨-,q1,-,f1,-⟩:=hs3.cells;have HM:=hd_ hs3;have HG:=hd_ (a4_ HG.out hB);have HN:=hd_ (aV_ HN.out hB);clear hB hs3);go_ret2;rw [HRES.out];refine ⟨A2,c2,rfl, ?_,HM.out.at_ (k2+1) (by go_num),a2_ HG.out (aU_ _ _ _ _)⟩;exact (NdF.ownT (n:=out.length) (c:=c2) HN.out rfl (by simp only [maxLen];omega) HT.out).grow (aU_ _ _ _ _) (fun k e=>by cases e;exact hgl)
   | false =>
    have hlen1:∀ x:List Nd,(out++x).length=out.length+x.length:=fun x=>by simp
    rcases Nat.eq_zero_or_pos n with hn0|hn0
    ·subst hn0;have hcz:¬ (0<0/\isW ws k2 [44]=false):=by simp
     have HQ:=hd_ (fun w' h=>HSUM.out (k2) w' h om_ hl2);have hgb:=HGO.out (k2) hl2
     cases hp:s (k2) with
     | error x0 =>
      have HRES:=hd_ (HR.out.trans (lE_ (q:=k2) hw hcz si_ hp));have HQ':Hid (∀ w',aO_ g W cw ws (k2) false w'->Calls Tryz.prog 32 #[.pointer (some ⟨g,0,none⟩),.int .i64 0] w' (e6_ g W cw ws (k2) (.error x0) w')):=hd_ (fun w' h=>by have:=HQ.out w' h;rw [hp] at this;exact this);unfold isW at hw;rw [hw] at HI;clear hp HQ hgb hcz hw;go_wp2_with (first
           | (go_at_call 29;refine HI.out.mono ?_;rintro e w3 ⟨rfl,hB⟩;have HM:=hd_ (HM.out.past hB);have HG:=hd_ (a4_ HG.out hB);have HN:=hd_ (aV_ HN.out hB);have hsz:=Nat.le_trans hsz hB.size;clear hB)
           | (go_at_call 32;refine (HQ'.out _ HM.out).mono ?_;rintro e w8 ⟨A8,c8,x,rfl,hl8,hn8,hs8,hG8⟩;have HX:=hd_ hn8;clear hn8;have HM:=hd_ hs8;have HG:=hd_ (a2_ HG.out hG8);have HN:=hd_ (cD_ HN.out hG8 hgl);have hsz:=Nat.le_trans hsz hG8.size;clear hs8 hG8)
           | (at_builtin;refine b4_ _ rfl (.tmp 34) (.tmp 35) _ rfl w.heap.size 61 i0 _ 3 32 Tryz.underlying59 hi0 hz0 hz1 hz2 rfl om_ _ out.length _ rfl HN.out _ A8 x.length c8 _ rfl HX.out.1.1 (e1_ x) (by simp only [maxLen];omega) om_ om_ ?_;intro v9 w9 hown9 hg9 hat9;clear hat9;have hB9:Below w.heap.size w8 w9:=bA_ (Below.refl _ _) HN.out hg9 om_ (Nat.le_refl _);obtain ⟨A9,c9,hv9⟩:=b7_ hown9;subst hv9;have HM:=hd_ (HM.out.under hB9 hgl);have HG:=hd_ (c2_ HG.out hB9 (Nat.le_refl _));have H9:=hd_ hown9;have hsz:=Nat.le_trans hsz hB9.size;clear hown9 hg9 hB9))
      go_roundw
      case measure=>exact iX_
      case rel=>exact ⟨0+1,by first|go_num|rfl,by omega,hsz,HG,.inr ⟨_,x0,rfl,HM,HRES⟩⟩
     | ok r =>
      obtain ⟨x,k3⟩:=r;obtain ⟨b1,b2,b3,b4⟩:=hgb.1 x k3 hp;have HRES:=hd_ (HR.out.trans (k3_ (q:=k2) hw hcz si_ hp));have HQ':Hid (∀ w',aO_ g W cw ws (k2) false w'->Calls Tryz.prog 32 #[.pointer (some ⟨g,0,none⟩),.int .i64 0] w' (e6_ g W cw ws (k2) (.ok (x,k3)) w')):=hd_ (fun w' h=>by have:=HQ.out w' h;rw [hp] at this;exact this);unfold isW at hw;rw [hw] at HI;clear hp HQ hgb hcz hw;go_wp2_with (first
           | (go_at_call 29;refine HI.out.mono ?_;rintro e w3 ⟨rfl,hB⟩;have HM:=hd_ (HM.out.past hB);have HG:=hd_ (a4_ HG.out hB);have HN:=hd_ (aV_ HN.out hB);have hsz:=Nat.le_trans hsz hB.size;clear hB)
           | (go_at_call 32;refine (HQ'.out _ HM.out).mono ?_;rintro e w8 ⟨A8,c8,rfl,hn8,hs8,hG8⟩;have HX:=hd_ hn8;clear hn8;have HM:=hd_ hs8;have HG:=hd_ (a2_ HG.out hG8);have HN:=hd_ (cD_ HN.out hG8 hgl);have hsz:=Nat.le_trans hsz hG8.size;clear hs8 hG8)
           | (at_builtin;refine b4_ _ rfl (.tmp 34) (.tmp 35) _ rfl w.heap.size 61 i0 _ 3 32 Tryz.underlying59 hi0 hz0 hz1 hz2 rfl om_ _ out.length _ rfl HN.out _ A8 x.length c8 _ rfl HX.out.1.1 (e1_ x) (by simp only [maxLen];omega) om_ om_ ?_;intro v9 w9 hown9 hg9 hat9;clear hat9;have hB9:Below w.heap.size w8 w9:=bA_ (Below.refl _ _) HN.out hg9 om_ (Nat.le_refl _);obtain ⟨A9,c9,hv9⟩:=b7_ hown9;subst hv9;have HM:=hd_ (HM.out.under hB9 hgl);have HG:=hd_ (c2_ HG.out hB9 (Nat.le_refl _));have H9:=hd_ hown9;have hsz:=Nat.le_trans hsz hB9.size;clear hown9 hg9 hB9))
      go_roundw
      case measure=>exact iX_
      case rel =>
       refine ⟨0+1,by first|go_num|rfl,by omega,hsz,HG,.inl ⟨out++x,k3,j,A9,c9,by rw [hlen1],by omega,b2,by omega,by rw [hlen1];omega,by rw [hlen1];omega,hd_ (by rw [hlen1,List.flatMap_append];exact H9.out),hd_ ?_,HM,HRES⟩⟩;intro z hz
       rcases List.mem_append.1 hz with hz|hz
       ·exact HT.out z hz
       ·exact HX.out.1.2.2 z hz
    ·have q1:decide ((n:Int)>0)=true:=decide_eq_true om_
     cases hcm:isW ws k2 [44] with
     | false =>
      have HRES:=hd_ (HR.out.trans (s5_ hw hn0 hcm));have HMU:Hid (∀ w',aO_ g W cw ws k2 false w'->Calls Tryz.prog 31 #[.pointer (some ⟨g,0,none⟩),.string ⟨#[44]⟩] w' (gY_ g W cw ws k2 true (.tuple #[]) w')):=hd_ (fun w' h=>i0_ w' h hl2 _ (by rw [H44.out];simp) (by rw [H44.out];simpa [isW] using hcm));have HQ':Hid (∀ w',aO_ g W cw ws k2 true w'->Calls Tryz.prog 32 #[.pointer (some ⟨g,0,none⟩),.int .i64 0] w' (e6_ g W cw ws k2 (.error k2) w')):=hd_ (fun w' h=>(qC_ w' h).mono (by rintro e w8 ⟨rfl,h8,hG⟩;exact ⟨none,0,[],rfl,by simp;omega,⟨⟨Sl.nil_,by simp [maxLen],by simp⟩,fun _ e=>by cases e⟩,h8,hG⟩));unfold isW at hw;rw [hw] at HI;clear hcm hw;go_wp2_with (first
       | (go_at_call 29;refine HI.out.mono ?_;rintro e w3 ⟨rfl,hB⟩;have HM:=hd_ (HM.out.past hB);have HG:=hd_ (a4_ HG.out hB);have HN:=hd_ (aV_ HN.out hB);have hsz:=Nat.le_trans hsz hB.size;clear hB)
       | (go_at_call 31;refine (HMU.out _ HM.out).mono ?_;rintro e w4 ⟨rfl,hs4,hG4⟩;have HM:=hd_ hs4;have HG:=hd_ (a2_ HG.out hG4);have HN:=hd_ (cD_ HN.out hG4 hgl);have hsz:=Nat.le_trans hsz hG4.size;clear hs4 hG4)
       | (go_at_call 32;refine (HQ'.out _ HM.out).mono ?_;rintro e w8 ⟨A8,c8,x,rfl,hl8,hn8,hs8,hG8⟩;have HX:=hd_ hn8;clear hn8;have HM:=hd_ hs8;have HG:=hd_ (a2_ HG.out hG8);have HN:=hd_ (cD_ HN.out hG8 hgl);have hsz:=Nat.le_trans hsz hG8.size;clear hs8 hG8)
       | (at_builtin;refine b4_ _ rfl (.tmp 34) (.tmp 35) _ rfl w.heap.size 61 i0 _ 3 32 Tryz.underlying59 hi0 hz0 hz1 hz2 rfl om_ _ out.length _ rfl HN.out _ A8 x.length c8 _ rfl HX.out.1.1 (e1_ x) (by simp only [maxLen];omega) om_ om_ ?_;intro v9 w9 hown9 hg9 hat9;clear hat9;have hB9:Below w.heap.size w8 w9:=bA_ (Below.refl _ _) HN.out hg9 om_ (Nat.le_refl _);obtain ⟨A9,c9,hv9⟩:=b7_ hown9;subst hv9;have HM:=hd_ (HM.out.under hB9 hgl);have HG:=hd_ (c2_ HG.out hB9 (Nat.le_refl _));have H9:=hd_ hown9;have hsz:=Nat.le_trans hsz hB9.size;clear hown9 hg9 hB9))
      go_roundw
      case measure=>exact iX_
      case rel=>exact ⟨n+1,by first|go_num|rfl,by omega,hsz,HG,.inr ⟨_,k2,rfl,HM,HRES⟩⟩
     | true =>
      have hlt:k2<ws.length:=cH_ hcm;have hcz:¬ (0<n/\isW ws k2 [44]=false):=by simp [hcm]
      have HMU:Hid (∀ w',aO_ g W cw ws k2 false w'->Calls Tryz.prog 31 #[.pointer (some ⟨g,0,none⟩),.string ⟨#[44]⟩] w' (gY_ g W cw ws (k2+1) false (.tuple #[]) w')):=hd_ (fun w' h=>pZ_ w' h hl2 _ (by rw [H44.out];simp) (by rw [H44.out];exact hcm));have HQ:=hd_ (fun w' h=>HSUM.out (k2+1) w' h om_ hlt);have hgb:=HGO.out (k2+1) hlt
      cases hp:s (k2+1) with
      | error x0 =>
       have HRES:=hd_ (HR.out.trans (lE_ (q:=k2+1) hw hcz (by simp [hn0]) hp));have HQ':Hid (∀ w',aO_ g W cw ws (k2+1) false w'->Calls Tryz.prog 32 #[.pointer (some ⟨g,0,none⟩),.int .i64 0] w' (e6_ g W cw ws (k2+1) (.error x0) w')):=hd_ (fun w' h=>by have:=HQ.out w' h;rw [hp] at this;exact this);unfold isW at hw;rw [hw] at HI;clear hp HQ hgb hcz hw hcm;go_wp2_with (first
            | (go_at_call 29;refine HI.out.mono ?_;rintro e w3 ⟨rfl,hB⟩;have HM:=hd_ (HM.out.past hB);have HG:=hd_ (a4_ HG.out hB);have HN:=hd_ (aV_ HN.out hB);have hsz:=Nat.le_trans hsz hB.size;clear hB)
            | (go_at_call 31;refine (HMU.out _ HM.out).mono ?_;rintro e w4 ⟨rfl,hs4,hG4⟩;have HM:=hd_ hs4;have HG:=hd_ (a2_ HG.out hG4);have HN:=hd_ (cD_ HN.out hG4 hgl);have hsz:=Nat.le_trans hsz hG4.size;clear hs4 hG4)
            | (go_at_call 32;refine (HQ'.out _ HM.out).mono ?_;rintro e w8 ⟨A8,c8,x,rfl,hl8,hn8,hs8,hG8⟩;have HX:=hd_ hn8;clear hn8;have HM:=hd_ hs8;have HG:=hd_ (a2_ HG.out hG8);have HN:=hd_ (cD_ HN.out hG8 hgl);have hsz:=Nat.le_trans hsz hG8.size;clear hs8 hG8)
            | (at_builtin;refine b4_ _ rfl (.tmp 34) (.tmp 35) _ rfl w.heap.size 61 i0 _ 3 32 Tryz.underlying59 hi0 hz0 hz1 hz2 rfl om_ _ out.length _ rfl HN.out _ A8 x.length c8 _ rfl HX.out.1.1 (e1_ x) (by simp only [maxLen];omega) om_ om_ ?_;intro v9 w9 hown9 hg9 hat9;clear hat9;have hB9:Below w.heap.size w8 w9:=bA_ (Below.refl _ _) HN.out hg9 om_ (Nat.le_refl _);obtain ⟨A9,c9,hv9⟩:=b7_ hown9;subst hv9;have HM:=hd_ (HM.out.under hB9 hgl);have HG:=hd_ (c2_ HG.out hB9 (Nat.le_refl _));have H9:=hd_ hown9;have hsz:=Nat.le_trans hsz hB9.size;clear hown9 hg9 hB9))
       go_roundw
       case measure=>exact iX_
       case rel=>exact ⟨n+1,by first|go_num|rfl,by omega,hsz,HG,.inr ⟨_,x0,rfl,HM,HRES⟩⟩
      | ok r =>
       obtain ⟨x,k3⟩:=r;obtain ⟨b1,b2,b3,b4⟩:=hgb.1 x k3 hp;have HRES:=hd_ (HR.out.trans (k3_ (q:=k2+1) hw hcz (by simp [hn0]) hp));have HQ':Hid (∀ w',aO_ g W cw ws (k2+1) false w'->Calls Tryz.prog 32 #[.pointer (some ⟨g,0,none⟩),.int .i64 0] w' (e6_ g W cw ws (k2+1) (.ok (x,k3)) w')):=hd_ (fun w' h=>by have:=HQ.out w' h;rw [hp] at this;exact this);unfold isW at hw;rw [hw] at HI;clear hp HQ hgb hcz hw hcm;go_wp2_with (first
            | (go_at_call 29;refine HI.out.mono ?_;rintro e w3 ⟨rfl,hB⟩;have HM:=hd_ (HM.out.past hB);have HG:=hd_ (a4_ HG.out hB);have HN:=hd_ (aV_ HN.out hB);have hsz:=Nat.le_trans hsz hB.size;clear hB)
            | (go_at_call 31;refine (HMU.out _ HM.out).mono ?_;rintro e w4 ⟨rfl,hs4,hG4⟩;have HM:=hd_ hs4;have HG:=hd_ (a2_ HG.out hG4);have HN:=hd_ (cD_ HN.out hG4 hgl);have hsz:=Nat.le_trans hsz hG4.size;clear hs4 hG4)
            | (go_at_call 32;refine (HQ'.out _ HM.out).mono ?_;rintro e w8 ⟨A8,c8,rfl,hn8,hs8,hG8⟩;have HX:=hd_ hn8;clear hn8;have HM:=hd_ hs8;have HG:=hd_ (a2_ HG.out hG8);have HN:=hd_ (cD_ HN.out hG8 hgl);have hsz:=Nat.le_trans hsz hG8.size;clear hs8 hG8)
            | (at_builtin;refine b4_ _ rfl (.tmp 34) (.tmp 35) _ rfl w.heap.size 61 i0 _ 3 32 Tryz.underlying59 hi0 hz0 hz1 hz2 rfl om_ _ out.length _ rfl HN.out _ A8 x.length c8 _ rfl HX.out.1.1 (e1_ x) (by simp only [maxLen];omega) om_ om_ ?_;intro v9 w9 hown9 hg9 hat9;clear hat9;have hB9:Below w.heap.size w8 w9:=bA_ (Below.refl _ _) HN.out hg9 om_ (Nat.le_refl _);obtain ⟨A9,c9,hv9⟩:=b7_ hown9;subst hv9;have HM:=hd_ (HM.out.under hB9 hgl);have HG:=hd_ (c2_ HG.out hB9 (Nat.le_refl _));have H9:=hd_ hown9;have hsz:=Nat.le_trans hsz hB9.size;clear hown9 hg9 hB9))
       go_roundw
       case measure=>exact iX_
       case rel =>
        refine ⟨n+1,by first|go_num|rfl,by omega,hsz,HG,.inl ⟨out++x,k3,j,A9,c9,by rw [hlen1],by omega,b2,by omega,by rw [hlen1];omega,by rw [hlen1];omega,hd_ (by rw [hlen1,List.flatMap_append];exact H9.out),hd_ ?_,HM,HRES⟩⟩;intro z hz
        rcases List.mem_append.1 hz with hz|hz
        ·exact HT.out z hz
        ·exact HX.out.1.2.2 z hz
  ·obtain ⟨-,-,cb,-,-⟩:=HM.out.cells;go_wp2;go_ret2;rw [HR.out];exact ⟨rfl,HM.out,HG.out⟩
def iZ_ (l:List UInt8):Int:=l.foldl (fun n c=>n*10+((c.toNat:Int)-48)) 0
theorem uZ_ (l:List UInt8) (c:UInt8):iZ_ (l++[c])=iZ_ l*10+((c.toNat:Int)-48):=by simp [iZ_]
theorem aoX_:∀ (n:Nat) (l:List UInt8),l.length=n->l.all fP_=true->0<=iZ_ l/\iZ_ l<10 ^ n:=by
 intro n
 induction n with
 | zero=>intro l h _;have:l=[]:=List.eq_nil_of_length_eq_zero h;subst this;simp [iZ_]
 | succ n ih =>
  intro l h hd;have hne:l≠[]:=by intro e;rw [e] at h;simp at h
  obtain ⟨r,c,rfl⟩:∃ r c,l=r++[c]:=⟨l.dropLast,l.getLast hne,(List.dropLast_concat_getLast hne).symm⟩;simp only [List.all_append,Bool.and_eq_true] at hd;obtain ⟨h1,h2⟩:=ih r (by simp at h;exact h) hd.1;have hc:fP_ c=true:=by simpa using hd.2
  simp [fP_] at hc;rw [uZ_,Int.pow_succ];omega
def wK_ (g:Nat) (W:Option Addr) (cw:Nat) (ws:List ByteArray) (x0:Nat) (w:World) (e:Ending) (w':World):Prop :=
 ∃ A c,∃ x:List Nd,e=.returned (.tuple #[.int .i64 0,.slice A x.length c])/\x.length<=1/\NdF w.heap.size w' A x/\aO_ g W cw ws x0 true w'/\w.grownBy w' (some g)
theorem qA_ {g cw:Nat} {W:Option Addr} {ws:List ByteArray} {x0:Nat} {w':World} {f:FuncId} {a:Array Value} (h:Calls Tryz.prog f a w' (rD_ g W cw ws (.error x0) w')):Calls Tryz.prog f a w' (wK_ g W cw ws x0 w') :=
 h.mono (by rintro e w8 ⟨rfl,h8,hG⟩;exact ⟨none,0,[],rfl,by simp,⟨⟨Sl.nil_,by simp [maxLen],by simp⟩,fun _ e=>by cases e⟩,h8,hG⟩)
theorem aa0_ {g cw:Nat} {W:Option Addr} {ws:List ByteArray} (s:Nat->PrR) (hgo:gU_ ws s) (hdg:∀ j,eD_ (a3_ ws j)=true->(a3_ ws j).data.toList.all fP_=true/\(a3_ ws j).size<=6) (hne:∀ j,j<ws.length->0<(a3_ ws j).size) (k:Nat)
  (HSUM:Hid (∀ (k':Nat) (w:World),aO_ g W cw ws k' false w->k<k'->k'<=ws.length->Calls Tryz.prog 32 #[.pointer (some ⟨g,0,none⟩),.int .i64 0] w (e6_ g W cw ws k' (s k') w)))
  (w:World) (hs:aO_ g W cw ws k false w) (hk:k<=ws.length) :
  Calls Tryz.prog 55 #[.pointer (some ⟨g,0,none⟩)] w (e6_ g W cw ws k (f7_ ws s k) w):=by
 obtain ⟨R,hR⟩:∃ R,R=f7_ ws s k:=⟨_,rfl⟩;rw [← hR]
 rcases Nat.lt_or_ge k ws.length with hlt|hge
 case inr =>
  have hw:a3_ ws k=.empty:=j7_ hge;have e1:R=.error k:=by
   rw [hR];refine s8_ ?_ ?_ ?_ ?_
   ·unfold isW;rw [hw];decide +kernel
   ·unfold isW;rw [hw];decide +kernel
   ·rw [hw];rfl
   ·rw [hw];decide +kernel
  rw [e1];exact (p0_ w hs (.inr om_)).mono (by rintro e w8 ⟨rfl,h8,hG⟩;exact ⟨none,0,[],rfl,by simp;omega,⟨⟨Sl.nil_,by simp [maxLen],by simp⟩,fun _ e=>by cases e⟩,h8,hG⟩)
 obtain ⟨i0,hi0,hz0,hz1,hz2⟩:=info_parts eS_;have hf:=hs.few;have hgl:=hs.lt;have hsz:(a3_ ws k).size<=maxLen:=by rw [j6_ hlt];exact hs.txs.2.2 _ (List.getElem_mem hlt)
 have HSZ:=hd_ hsz;have hS0:=hne k hlt;have hS:(a3_ ws k).data.toList≠[]:=by
  intro h;have:(a3_ ws k).data.toList.length=(a3_ ws k).size:=by simp
  rw [h] at this;simp only [List.length_nil] at this;omega
 have hda:=aeV_ hS0;have h40:(⟨#[40]⟩:ByteArray).toList=[40]:=by decide +kernel
 have h41:(⟨#[41]⟩:ByteArray).toList=[41]:=by decide +kernel
 have h93:(⟨#[93]⟩:ByteArray).toList=[93]:=by decide +kernel
 have HS:=hd_ hs;have H40:=hd_ h40;have H41:=hd_ h41;have H93:=hd_ h93;obtain ⟨b,off,rfl,hb,hwc⟩:=hs.word hlt;obtain ⟨c0,c1,c2,-,-⟩:=hs.cells;have q2:decide ((ws.length:Int)<=(k:Int))=false:=decide_eq_false om_;have n3:decide (ws.length<=k)=false:=decide_eq_false om_;have n4:decide ((k:Int)<0)=false:=decide_eq_false om_;have HNA:=hd_ (fun w'=>n3_ (a3_ ws k) w' hsz);have HFI:=hd_ (fun w'=>i3_ (c:=(a3_ ws k)[0]) (b:=eD_ (a3_ ws k)) (by rw [hda];rfl) w')
 cases w40:isW ws k [40] with
 | true =>
  have HQ:=hd_ (fun w' h=>HSUM.out (k+1) w' h om_ hlt);have hgb:=hgo (k+1) hlt
  cases hp:s (k+1) with
  | error x0 =>
   have hx:=hgb.2 x0 hp;have HRES:=hd_ (hR.trans (aaH_ w40 hp));have HQ':Hid (∀ w',aO_ g (some ⟨b,off,none⟩) cw ws (k+1) false w'->Calls Tryz.prog 32 #[.pointer (some ⟨g,0,none⟩),.int .i64 0] w' (e6_ g (some ⟨b,off,none⟩) cw ws (k+1) (.error x0) w')):=hd_ (fun w' h=>by have:=HQ.out w' h;rw [hp] at this;exact this);have HMU:Hid (∀ w',aO_ g (some ⟨b,off,none⟩) cw ws x0 true w'->Calls Tryz.prog 31 #[.pointer (some ⟨g,0,none⟩),.string ⟨#[41]⟩] w' (gY_ g (some ⟨b,off,none⟩) cw ws x0 true (.tuple #[]) w')):=hd_ (fun w' h=>i0_ w' h hx _ (by rw [H41.out];simp) si_);unfold isW at w40;generalize aY_ (a3_ ws k)=nb at *;generalize eD_ (a3_ ws k)=db at *;generalize a3_ ws k=S at *;clear hp HQ hgb hda hS;clear hgo hdg hne hR h40 h41 h93 hs hsz;go_enter Tryz.func55,Tryz.ntmps55;go_wp2;go_quiet (fail);go_wp2;go_quiet (fail);go_wp2_with (first
    | (go_at_call 30;refine (HNA.out _).mono ?_;rintro e w2 ⟨rfl,hw2⟩;have hB:Below w.heap.size w w2:=(by rw [← hw2];first|exact below_drewN (below_drewN (Below.refl _ _) _) _|exact below_drewN (Below.refl _ _) _|exact Below.refl _ _);clear hw2;have hs2:=HS.out.past hB;obtain ⟨-,c1,c2,f1,f2⟩:=hs2.cells;have HM:=hd_ hs2;have HG:Hid (w.grownBy w2 (some g)):=hd_ (gM_ _ hB);clear hs2 hB)
    | (go_at_call 54;refine (HFI.out _).mono ?_;rintro e w3 ⟨rfl,rfl⟩)
    | (go_at_call 32;refine (HQ'.out _ (HM.out.at_ (k+1) (by go_num))).mono ?_;rintro e w8 ⟨A8,c8,x,rfl,hl8,hn8,hs8,hG8⟩;have HM:=hd_ hs8;have HG0:=HG;have HG:=hd_ (a2_ (a2_ HG.out (aU_ _ _ _ _)) hG8);have HX:=hd_ (hn8.less (Nat.le_trans HG0.out.size (aU_ _ _ _ _).size));clear hn8;clear hs8 hG8)
    | (go_at_call 31;refine (HMU.out _ HM.out).mono ?_;rintro e w9 ⟨rfl,hs9,hG9⟩;have HM:=hd_ hs9;have HX:=hd_ (HX.out.grow hG9 (fun k e=>by cases e;exact hgl));have HG:=hd_ (a2_ HG.out hG9);clear hs9 hG9))
   go_ret;rw [HRES.out];exact ⟨A8,c8,x,rfl,by omega,HX.out,HM.out,HG.out⟩
  | ok r =>
   obtain ⟨x,k2⟩:=r;obtain ⟨b1,b2,b3,b4⟩:=hgb.1 x k2 hp;have HQ':Hid (∀ w',aO_ g (some ⟨b,off,none⟩) cw ws (k+1) false w'->Calls Tryz.prog 32 #[.pointer (some ⟨g,0,none⟩),.int .i64 0] w' (e6_ g (some ⟨b,off,none⟩) cw ws (k+1) (.ok (x,k2)) w')):=hd_ (fun w' h=>by have:=HQ.out w' h;rw [hp] at this;exact this)
   cases w41:isW ws k2 [41] with
   | false =>
    have HRES:=hd_ (hR.trans (aaI_ w40 hp w41));have HMU:Hid (∀ w',aO_ g (some ⟨b,off,none⟩) cw ws k2 false w'->Calls Tryz.prog 31 #[.pointer (some ⟨g,0,none⟩),.string ⟨#[41]⟩] w' (gY_ g (some ⟨b,off,none⟩) cw ws k2 true (.tuple #[]) w')):=hd_ (fun w' h=>i0_ w' h b2 _ (by rw [H41.out];simp) (by rw [H41.out];simpa [isW] using w41));unfold isW at w40;generalize aY_ (a3_ ws k)=nb at *;generalize eD_ (a3_ ws k)=db at *;generalize a3_ ws k=S at *;clear hp HQ hgb hda hS w41;clear hgo hdg hne hR h40 h41 h93 hs hsz;go_enter Tryz.func55,Tryz.ntmps55;go_wp2;go_quiet (fail);go_wp2;go_quiet (fail);go_wp2_with (first
     | (go_at_call 30;refine (HNA.out _).mono ?_;rintro e w2 ⟨rfl,hw2⟩;have hB:Below w.heap.size w w2:=(by rw [← hw2];first|exact below_drewN (below_drewN (Below.refl _ _) _) _|exact below_drewN (Below.refl _ _) _|exact Below.refl _ _);clear hw2;have hs2:=HS.out.past hB;obtain ⟨-,c1,c2,f1,f2⟩:=hs2.cells;have HM:=hd_ hs2;have HG:Hid (w.grownBy w2 (some g)):=hd_ (gM_ _ hB);clear hs2 hB)
     | (go_at_call 54;refine (HFI.out _).mono ?_;rintro e w3 ⟨rfl,rfl⟩)
     | (go_at_call 32;refine (HQ'.out _ (HM.out.at_ (k+1) (by go_num))).mono ?_;rintro e w8 ⟨A8,c8,rfl,hn8,hs8,hG8⟩;have HM:=hd_ hs8;have HG0:=HG;have HG:=hd_ (a2_ (a2_ HG.out (aU_ _ _ _ _)) hG8);have HX:=hd_ (hn8.less (Nat.le_trans HG0.out.size (aU_ _ _ _ _).size));clear hn8;clear hs8 hG8)
     | (go_at_call 31;refine (HMU.out _ HM.out).mono ?_;rintro e w9 ⟨rfl,hs9,hG9⟩;have HM:=hd_ hs9;have HX:=hd_ (HX.out.grow hG9 (fun k e=>by cases e;exact hgl));have HG:=hd_ (a2_ HG.out hG9);clear hs9 hG9))
    go_ret;rw [HRES.out];exact ⟨A8,c8,x,rfl,by omega,HX.out,HM.out,HG.out⟩
   | true =>
    have HRES:=hd_ (hR.trans (tF_ w40 hp w41));have HMU:Hid (∀ w',aO_ g (some ⟨b,off,none⟩) cw ws k2 false w'->Calls Tryz.prog 31 #[.pointer (some ⟨g,0,none⟩),.string ⟨#[41]⟩] w' (gY_ g (some ⟨b,off,none⟩) cw ws (k2+1) false (.tuple #[]) w')):=hd_ (fun w' h=>pZ_ w' h b2 _ (by rw [H41.out];simp) (by rw [H41.out];exact w41));unfold isW at w40;generalize aY_ (a3_ ws k)=nb at *;generalize eD_ (a3_ ws k)=db at *;generalize a3_ ws k=S at *;clear hp HQ hgb hda hS w41;clear hgo hdg hne hR h40 h41 h93 hs hsz;go_enter Tryz.func55,Tryz.ntmps55;go_wp2;go_quiet (fail);go_wp2;go_quiet (fail);go_wp2_with (first
     | (go_at_call 30;refine (HNA.out _).mono ?_;rintro e w2 ⟨rfl,hw2⟩;have hB:Below w.heap.size w w2:=(by rw [← hw2];first|exact below_drewN (below_drewN (Below.refl _ _) _) _|exact below_drewN (Below.refl _ _) _|exact Below.refl _ _);clear hw2;have hs2:=HS.out.past hB;obtain ⟨-,c1,c2,f1,f2⟩:=hs2.cells;have HM:=hd_ hs2;have HG:Hid (w.grownBy w2 (some g)):=hd_ (gM_ _ hB);clear hs2 hB)
     | (go_at_call 54;refine (HFI.out _).mono ?_;rintro e w3 ⟨rfl,rfl⟩)
     | (go_at_call 32;refine (HQ'.out _ (HM.out.at_ (k+1) (by go_num))).mono ?_;rintro e w8 ⟨A8,c8,rfl,hn8,hs8,hG8⟩;have HM:=hd_ hs8;have HG0:=HG;have HG:=hd_ (a2_ (a2_ HG.out (aU_ _ _ _ _)) hG8);have HX:=hd_ (hn8.less (Nat.le_trans HG0.out.size (aU_ _ _ _ _).size));clear hn8;clear hs8 hG8)
     | (go_at_call 31;refine (HMU.out _ HM.out).mono ?_;rintro e w9 ⟨rfl,hs9,hG9⟩;have HM:=hd_ hs9;have HX:=hd_ (HX.out.grow hG9 (fun k e=>by cases e;exact hgl));have HG:=hd_ (a2_ HG.out hG9);clear hs9 hG9))
    go_ret;rw [HRES.out];exact ⟨A8,c8,rfl,HX.out,HM.out,HG.out⟩
 | false =>
  cases w91:isW ws k [91] with
  | true =>
   have HQ:=hd_ (fun w' h=>vB_ s hgo ⟨#[93]⟩ (by rw [H93.out];simp) (k+1) (hd_ (fun k' w' h' h1 h2=>HSUM.out k' w' h' om_ h2)) w' h hlt);have hgb:=hG_ (ed:=[93]) si_ hgo (ws.length+1) 0 [] (k+1) (k+1) hlt si_ si_;rw [H93.out] at HQ
   cases hp:c0_ ws [93] s (ws.length+1) 0 [] (k+1) with
   | error x0 =>
    have HRES:=hd_ (hR.trans (aaJ_ w40 w91 hp));have HQ':Hid (∀ w',aO_ g (some ⟨b,off,none⟩) cw ws (k+1) false w'->Calls Tryz.prog 107 #[.pointer (some ⟨g,0,none⟩),.string ⟨#[93]⟩] w' (wK_ g (some ⟨b,off,none⟩) cw ws x0 w')):=hd_ (fun w' h=>qA_ (by have:=HQ.out w' h;rw [hp] at this;exact this));unfold isW at w40 w91;generalize aY_ (a3_ ws k)=nb at *;generalize eD_ (a3_ ws k)=db at *;generalize a3_ ws k=S at *;clear hp HQ hgb hda hS;clear hgo hdg hne hR h40 h41 h93 hs hsz;go_enter Tryz.func55,Tryz.ntmps55;go_wp2;go_quiet (fail);go_wp2;go_quiet (fail);go_wp2_with (first
     | (go_at_call 30;refine (HNA.out _).mono ?_;rintro e w2 ⟨rfl,hw2⟩;have hB:Below w.heap.size w w2:=(by rw [← hw2];first|exact below_drewN (below_drewN (Below.refl _ _) _) _|exact below_drewN (Below.refl _ _) _|exact Below.refl _ _);clear hw2;have hs2:=HS.out.past hB;obtain ⟨-,c1,c2,f1,f2⟩:=hs2.cells;have HM:=hd_ hs2;have HG:Hid (w.grownBy w2 (some g)):=hd_ (gM_ _ hB);clear hs2 hB)
     | (go_at_call 54;refine (HFI.out _).mono ?_;rintro e w3 ⟨rfl,rfl⟩)
     | (go_at_call 107;refine (HQ'.out _ (HM.out.at_ (k+1) (by go_num))).mono ?_;rintro e w8 ⟨A8,c8,x,rfl,hx0,hn8,hs8,hG8⟩;have HM:=hd_ hs8;have HG:=hd_ (a2_ (a2_ HG.out (aU_ _ _ _ _)) hG8);have h8:=HG.out.size;have H0:=hd_ (d3_ (w:=w8) (base:=w8.heap.size) (e:=61) (size:=3) (g:=w8.heap.size) (n:=1) #[.int .i64 4,.string .empty,.int .i64 0] rfl (Nat.le_refl _) (by simp [maxLen]) si_);have HA:=hd_ (hn8.1.1.alloc (.cells #[.int .i64 4,.string .empty,.int .i64 0] 61));have HT:Hid (∀ z ∈ x,z.text.size<=maxLen):=hd_ hn8.1.2.2;clear hn8 hs8 hG8)
     | (at_builtin;refine b4_ _ rfl (.tmp 83) (.tmp 84) _ rfl w8.heap.size 61 i0 _ 3 32 Tryz.underlying59 hi0 hz0 hz1 hz2 rfl om_ _ 1 _ rfl H0.out _ A8 x.length c8 _ rfl HA.out (e1_ x) (by simp only [maxLen];omega) om_ si_ ?_;intro v9 w9 hown9 hg9 hat9;clear hat9;have hB9:Below w8.heap.size w8 w9:=bA_ (aE_) H0.out hg9 si_ (Nat.le_refl _);obtain ⟨A9,c9,hv9⟩:=b7_ hown9;subst hv9;have HM:=hd_ (HM.out.past hB9);have HG:=hd_ (a4_ HG.out hB9);have H9:=hd_ hown9;clear hown9 hg9 hB9))
    go_ret;rw [HRES.out];exact ⟨A9,c9,⟨4,.empty,0⟩::x,by rw [List.length_cons,Nat.add_comm];rfl,by rw [List.length_cons];omega,j3_ (d:=⟨4,.empty,0⟩) (x:=x) (c:=c9) (n:=1+x.length) (by simpa using H9.out) om_ om_ (by simp [maxLen]) HT.out h8,HM.out,HG.out⟩
   | ok r =>
    obtain ⟨n,x,k2⟩:=r;obtain ⟨b1,b2,b3,b4⟩:=hgb.1 n x k2 hp;have HRES:=hd_ (hR.trans (tG_ w40 w91 hp));have HQ':Hid (∀ w',aO_ g (some ⟨b,off,none⟩) cw ws (k+1) false w'->Calls Tryz.prog 107 #[.pointer (some ⟨g,0,none⟩),.string ⟨#[93]⟩] w' (rD_ g (some ⟨b,off,none⟩) cw ws (.ok (n,x,k2)) w')):=hd_ (fun w' h=>by have:=HQ.out w' h;rw [hp] at this;exact this);unfold isW at w40 w91;generalize aY_ (a3_ ws k)=nb at *;generalize eD_ (a3_ ws k)=db at *;generalize a3_ ws k=S at *;clear hp HQ hgb hda hS;clear hgo hdg hne hR h40 h41 h93 hs hsz;go_enter Tryz.func55,Tryz.ntmps55;go_wp2;go_quiet (fail);go_wp2;go_quiet (fail);go_wp2_with (first
     | (go_at_call 30;refine (HNA.out _).mono ?_;rintro e w2 ⟨rfl,hw2⟩;have hB:Below w.heap.size w w2:=(by rw [← hw2];first|exact below_drewN (below_drewN (Below.refl _ _) _) _|exact below_drewN (Below.refl _ _) _|exact Below.refl _ _);clear hw2;have hs2:=HS.out.past hB;obtain ⟨-,c1,c2,f1,f2⟩:=hs2.cells;have HM:=hd_ hs2;have HG:Hid (w.grownBy w2 (some g)):=hd_ (gM_ _ hB);clear hs2 hB)
     | (go_at_call 54;refine (HFI.out _).mono ?_;rintro e w3 ⟨rfl,rfl⟩)
     | (go_at_call 107;refine (HQ'.out _ (HM.out.at_ (k+1) (by go_num))).mono ?_;rintro e w8 ⟨A8,c8,rfl,hn8,hs8,hG8⟩;have HM:=hd_ hs8;have HG:=hd_ (a2_ (a2_ HG.out (aU_ _ _ _ _)) hG8);have h8:=HG.out.size;have H0:=hd_ (d3_ (w:=w8) (base:=w8.heap.size) (e:=61) (size:=3) (g:=w8.heap.size) (n:=1) #[.int .i64 4,.string .empty,.int .i64 (n:Nat)] rfl (Nat.le_refl _) (by simp [maxLen]) si_);have HA:=hd_ (hn8.1.1.alloc (.cells #[.int .i64 4,.string .empty,.int .i64 (n:Nat)] 61));have HT:Hid (∀ z ∈ x,z.text.size<=maxLen):=hd_ hn8.1.2.2;clear hn8 hs8 hG8)
     | (at_builtin;refine b4_ _ rfl (.tmp 83) (.tmp 84) _ rfl w8.heap.size 61 i0 _ 3 32 Tryz.underlying59 hi0 hz0 hz1 hz2 rfl om_ _ 1 _ rfl H0.out _ A8 x.length c8 _ rfl HA.out (e1_ x) (by simp only [maxLen];omega) om_ si_ ?_;intro v9 w9 hown9 hg9 hat9;clear hat9;have hB9:Below w8.heap.size w8 w9:=bA_ (aE_) H0.out hg9 si_ (Nat.le_refl _);obtain ⟨A9,c9,hv9⟩:=b7_ hown9;subst hv9;have HM:=hd_ (HM.out.past hB9);have HG:=hd_ (a4_ HG.out hB9);have H9:=hd_ hown9;clear hown9 hg9 hB9))
    go_ret;rw [HRES.out];exact ⟨A9,c9,by rw [List.length_cons,Nat.add_comm];rfl,j3_ (d:=⟨4,.empty,(n:Nat)⟩) (x:=x) (c:=c9) (n:=1+x.length) (by simpa using H9.out) om_ om_ (by simp [maxLen]) HT.out h8,HM.out,HG.out⟩
  | false =>
   cases hd:eD_ (a3_ ws k) with
   | true =>
    obtain ⟨m1,m2⟩:=hdg k hd;have HRES:=hd_ (hR.trans (xV_ w40 w91 hd));rw [hd] at HFI;unfold isW at w40 w91;generalize aY_ (a3_ ws k)=nb at *;have hN:m0_ (a3_ ws k)=iZ_ (a3_ ws k).data.toList:=rfl;rw [hN] at HRES;generalize a3_ ws k=S at *;have hSl:S.data.toList.length=S.size:=by simp
    clear hd hda hS hN;clear hgo hdg hne hR h40 h41 h93 hs hsz;go_enter Tryz.func55,Tryz.ntmps55;go_wp2;go_quiet (fail);go_wp2;go_quiet (fail);go_upto_region 19 with (first
     | (go_at_call 30;refine (HNA.out _).mono ?_;rintro e w2 ⟨rfl,hw2⟩;have hB:Below w.heap.size w w2:=(by rw [← hw2];first|exact below_drewN (below_drewN (Below.refl _ _) _) _|exact below_drewN (Below.refl _ _) _|exact Below.refl _ _);clear hw2;have hs2:=HS.out.past hB;obtain ⟨-,c1,c2,f1,f2⟩:=hs2.cells;have HM:=hd_ hs2;have HG:Hid (w.grownBy w2 (some g)):=hd_ (gM_ _ hB);clear hs2 hB)
     | (go_at_call 54;refine (HFI.out _).mono ?_;rintro e w3 ⟨rfl,rfl⟩))
    refine dN_ (fun w4=>aO_ g (some ⟨b,off,none⟩) cw ws (k+1) false w4/\w.grownBy w4 (some g)) ⟨HM.out.at_ (k+1) (by go_num),a2_ HG.out (aU_ _ _ _ _)⟩ ?_;rintro w4 ⟨hs4,hG4⟩;have HM:=hd_ hs4;have HG:=hd_ hG4;clear hs4 hG4;go_wp2;go_loopw [10,11] (fun v i wr=>∃ j:Nat,i=.int .i64 (j:Nat)/\j<=S.size/\v=.int .i64 (iZ_ (S.data.toList.take j))/\wr=w4) (fun _ i _=>S.size-(intOf i).toNat)
    case atStart=>exact ⟨0,rfl,Nat.zero_le _,rfl,rfl⟩
    case round =>
     obtain ⟨j,rfl,hj,rfl,rfl⟩:=hrel
     by_cases hlt6:j<S.size
     ·have d1:decide ((j:Int)<(S.size:Int))=true:=decide_eq_true om_;have hjl:j<S.data.toList.length:=by rw [hSl];exact hlt6
      have htk:S.data.toList.take (j+1)=S.data.toList.take j++[S[j]]:=by
       rw [List.take_succ_eq_append_getElem hjl];rfl
      have hbd:=aoX_ j (S.data.toList.take j) (by rw [List.length_take];omega) (List.all_eq_true.2 (fun z hz=>List.all_eq_true.1 m1 z (List.mem_of_mem_take hz)));have hp5:(10:Int) ^ j<=10 ^ 5:=by
       have h5:j<=5:=by omega
       rcases j with _|_|_|_|_|_|j <;> first|decide|omega
      have hcd:fP_ S[j]=true:=List.all_eq_true.1 m1 _ (by
       have:S[j]=S.data.toList[j]:=rfl;rw [this];exact List.getElem_mem hjl)
      have hN1:iZ_ (S.data.toList.take (j+1))=iZ_ (S.data.toList.take j)*10+((S[j].toNat:Int)-48):=by rw [htk,uZ_]
      obtain ⟨z1,z2⟩:48<=S[j].toNat/\S[j].toNat<=57:=by simpa [fP_] using hcd
      obtain ⟨y1,y2⟩:=hbd;have y3:iZ_ (S.data.toList.take j)<100000:=by omega
      have HN1:=hd_ hN1;clear hcd hp5 htk hN1 y2 m1 HRES;generalize iZ_ (S.data.toList.take j)=N at *;go_wp2;go_roundw
      case measure=>exact iX_
      case rel=>exact ⟨j+1,by first|go_num|rfl,hlt6,by rw [HN1.out];first|rfl|go_num|(congr 1;go_num),by first|rfl|trivial⟩
     ·have hje:j=S.size:=by omega
      have d1:decide ((j:Int)<(S.size:Int))=false:=decide_eq_false om_;have htk:S.data.toList.take j=S.data.toList:=List.take_of_length_le (by rw [hSl];omega);rw [htk];clear htk m1;generalize iZ_ S.data.toList=N at *;go_wp2;go_ret;rw [HRES.out];exact ⟨_,_,rfl,((NdF.lit_ _ ⟨1,.empty,N⟩ 61 (by simp [maxLen])).less HG.out.size),HM.out.past (aE_),a4_ HG.out (aE_)⟩
   | false =>
    rw [hd] at HFI
    cases hn:aY_ (a3_ ws k) with
    | false =>
     have HRES:=hd_ (hR.trans (s8_ w40 w91 hd hn));rw [hn] at HNA;unfold isW at w40 w91;generalize a3_ ws k=S at *;clear hd hn hda hS;clear hgo hdg hne hR h40 h41 h93 hs hsz;go_enter Tryz.func55,Tryz.ntmps55;go_wp2;go_quiet (fail);go_wp2;go_quiet (fail);go_wp2_with (first
      | (go_at_call 30;refine (HNA.out _).mono ?_;rintro e w2 ⟨rfl,hw2⟩;have hB:Below w.heap.size w w2:=(by rw [← hw2];first|exact below_drewN (below_drewN (Below.refl _ _) _) _|exact below_drewN (Below.refl _ _) _|exact Below.refl _ _);clear hw2;have hs2:=HS.out.past hB;obtain ⟨-,c1,c2,f1,f2⟩:=hs2.cells;have HM:=hd_ hs2;have HG:Hid (w.grownBy w2 (some g)):=hd_ (gM_ _ hB);clear hs2 hB)
      | (go_at_call 54;refine (HFI.out _).mono ?_;rintro e w3 ⟨rfl,rfl⟩))
     go_ret;rw [HRES.out];exact ⟨none,0,[],rfl,by simp;omega,⟨⟨Sl.nil_,by simp [maxLen],by simp⟩,fun _ e=>by cases e⟩,HM.out.bad_,a2_ HG.out (aU_ _ _ _ _)⟩
    | true =>
     rw [hn] at HNA;have HP2:=hd_ (fun w' (h':aO_ g (some ⟨b,off,none⟩) cw ws (k+1) false w')=>(by have:=kL_ w' h' hlt ⟨#[40]⟩ (by rw [H40.out];simp);rwa [H40.out] at this:Calls Tryz.prog 29 #[.pointer (some ⟨g,0,none⟩),.string ⟨#[40]⟩] w' (Ret w' (.bool (!false&&((a3_ ws (k+1)).toList==[40]))))))
     cases v40:isW ws (k+1) [40] with
     | false =>
      have HRES:=hd_ (hR.trans (xW_ w40 w91 hd hn v40));unfold isW at w40 w91 v40;rw [v40] at HP2;generalize a3_ ws k=S at *;clear hd hn hda hS v40;clear hgo hdg hne hR h40 h41 h93 hs hsz;go_enter Tryz.func55,Tryz.ntmps55;go_wp2;go_quiet (fail);go_wp2;go_quiet (fail);go_wp2_with (first
       | (go_at_call 30;refine (HNA.out _).mono ?_;rintro e w2 ⟨rfl,hw2⟩;have hB:Below w.heap.size w w2:=(by rw [← hw2];first|exact below_drewN (below_drewN (Below.refl _ _) _) _|exact below_drewN (Below.refl _ _) _|exact Below.refl _ _);clear hw2;have hs2:=HS.out.past hB;obtain ⟨-,c1,c2,f1,f2⟩:=hs2.cells;have HM:=hd_ hs2;have HG:Hid (w.grownBy w2 (some g)):=hd_ (gM_ _ hB);clear hs2 hB)
       | (go_at_call 54;refine (HFI.out _).mono ?_;rintro e w3 ⟨rfl,rfl⟩)
       | (go_at_call 29;refine (HP2.out _ (HM.out.at_ (k+1) (by go_num))).mono ?_;rintro e w5 ⟨rfl,hB⟩;have hs5:=(HM.out.at_ (k+1) (show ((k:Int)+1)=_ by go_num)).past hB;obtain ⟨-,c1,c2,f1,f2⟩:=hs5.cells;have HM:=hd_ hs5;have HG:=hd_ (a4_ (a2_ HG.out (aU_ _ _ _ _)) hB);clear hB hs5))
      go_ret;rw [HRES.out];exact ⟨_,_,rfl,((NdF.lit_ _ ⟨2,S,0⟩ 61 HSZ.out).less HG.out.size),HM.out.past (aE_),a4_ HG.out (aE_)⟩
     | true =>
      have hlt2:=cH_ v40;have HQ:=hd_ (fun w' h=>vB_ s hgo ⟨#[41]⟩ (by rw [H41.out];simp) (k+2) (hd_ (fun k' w' h' h1 h2=>HSUM.out k' w' h' om_ h2)) w' h hlt2);have hgb:=hG_ (ed:=[41]) si_ hgo (ws.length+1) 0 [] (k+2) (k+2) hlt2 si_ si_;rw [H41.out] at HQ
      cases hp:c0_ ws [41] s (ws.length+1) 0 [] (k+2) with
      | error x0 =>
       have HRES:=hd_ (hR.trans (aaK_ w40 w91 hd hn v40 hp));have HQ':Hid (∀ w',aO_ g (some ⟨b,off,none⟩) cw ws (k+2) false w'->Calls Tryz.prog 107 #[.pointer (some ⟨g,0,none⟩),.string ⟨#[41]⟩] w' (wK_ g (some ⟨b,off,none⟩) cw ws x0 w')):=hd_ (fun w' h=>qA_ (by have:=HQ.out w' h;rw [hp] at this;exact this));unfold isW at w40 w91 v40;rw [v40] at HP2;generalize a3_ ws k=S at *;clear hp HQ hgb hd hn hda hS v40;clear hgo hdg hne hR h40 h41 h93 hs hsz;go_enter Tryz.func55,Tryz.ntmps55;go_wp2;go_quiet (fail);go_wp2;go_quiet (fail);go_wp2_with (first
        | (go_at_call 30;refine (HNA.out _).mono ?_;rintro e w2 ⟨rfl,hw2⟩;have hB:Below w.heap.size w w2:=(by rw [← hw2];first|exact below_drewN (below_drewN (Below.refl _ _) _) _|exact below_drewN (Below.refl _ _) _|exact Below.refl _ _);clear hw2;have hs2:=HS.out.past hB;obtain ⟨-,c1,c2,f1,f2⟩:=hs2.cells;have HM:=hd_ hs2;have HG:Hid (w.grownBy w2 (some g)):=hd_ (gM_ _ hB);clear hs2 hB)
        | (go_at_call 54;refine (HFI.out _).mono ?_;rintro e w3 ⟨rfl,rfl⟩)
        | (go_at_call 29;refine (HP2.out _ (HM.out.at_ (k+1) (by go_num))).mono ?_;rintro e w5 ⟨rfl,hB⟩;have hs5:=(HM.out.at_ (k+1) (show ((k:Int)+1)=_ by go_num)).past hB;obtain ⟨-,c1,c2,f1,f2⟩:=hs5.cells;have HM:=hd_ hs5;have HG:=hd_ (a4_ (a2_ HG.out (aU_ _ _ _ _)) hB);clear hB hs5)
        | (go_at_call 107;refine (HQ'.out _ (HM.out.at_ (k+2) (by go_num))).mono ?_;rintro e w8 ⟨A8,c8,x,rfl,hx0,hn8,hs8,hG8⟩;have HM:=hd_ hs8;have HG:=hd_ (a2_ (a2_ HG.out (aU_ _ _ _ _)) hG8);have h8:=HG.out.size;have H0:=hd_ (d3_ (w:=w8) (base:=w8.heap.size) (e:=61) (size:=3) (g:=w8.heap.size) (n:=1) #[.int .i64 3,.string S,.int .i64 0] rfl (Nat.le_refl _) (by simp [maxLen]) si_);have HA:=hd_ (hn8.1.1.alloc (.cells #[.int .i64 3,.string S,.int .i64 0] 61));have HT:Hid (∀ z ∈ x,z.text.size<=maxLen):=hd_ hn8.1.2.2;clear hn8 hs8 hG8)
        | (at_builtin;refine b4_ _ rfl (.tmp 144) (.tmp 145) _ rfl w8.heap.size 61 i0 _ 3 32 Tryz.underlying59 hi0 hz0 hz1 hz2 rfl om_ _ 1 _ rfl H0.out _ A8 x.length c8 _ rfl HA.out (e1_ x) (by simp only [maxLen];omega) om_ si_ ?_;intro v9 w9 hown9 hg9 hat9;clear hat9;have hB9:Below w8.heap.size w8 w9:=bA_ (aE_) H0.out hg9 si_ (Nat.le_refl _);obtain ⟨A9,c9,hv9⟩:=b7_ hown9;subst hv9;have HM:=hd_ (HM.out.past hB9);have HG:=hd_ (a4_ HG.out hB9);have H9:=hd_ hown9;clear hown9 hg9 hB9))
       go_ret;rw [HRES.out];exact ⟨A9,c9,⟨3,S,0⟩::x,by rw [List.length_cons,Nat.add_comm];rfl,by rw [List.length_cons];omega,j3_ (d:=⟨3,S,0⟩) (x:=x) (c:=c9) (n:=1+x.length) (by simpa using H9.out) om_ om_ HSZ.out HT.out h8,HM.out,HG.out⟩
      | ok r =>
       obtain ⟨n,x,k2⟩:=r;obtain ⟨b1,b2,b3,b4⟩:=hgb.1 n x k2 hp;have HRES:=hd_ (hR.trans (tH_ w40 w91 hd hn v40 hp));have HQ':Hid (∀ w',aO_ g (some ⟨b,off,none⟩) cw ws (k+2) false w'->Calls Tryz.prog 107 #[.pointer (some ⟨g,0,none⟩),.string ⟨#[41]⟩] w' (rD_ g (some ⟨b,off,none⟩) cw ws (.ok (n,x,k2)) w')):=hd_ (fun w' h=>by have:=HQ.out w' h;rw [hp] at this;exact this);unfold isW at w40 w91 v40;rw [v40] at HP2;generalize a3_ ws k=S at *;clear hp HQ hgb hd hn hda hS v40;clear hgo hdg hne hR h40 h41 h93 hs hsz;go_enter Tryz.func55,Tryz.ntmps55;go_wp2;go_quiet (fail);go_wp2;go_quiet (fail);go_wp2_with (first
        | (go_at_call 30;refine (HNA.out _).mono ?_;rintro e w2 ⟨rfl,hw2⟩;have hB:Below w.heap.size w w2:=(by rw [← hw2];first|exact below_drewN (below_drewN (Below.refl _ _) _) _|exact below_drewN (Below.refl _ _) _|exact Below.refl _ _);clear hw2;have hs2:=HS.out.past hB;obtain ⟨-,c1,c2,f1,f2⟩:=hs2.cells;have HM:=hd_ hs2;have HG:Hid (w.grownBy w2 (some g)):=hd_ (gM_ _ hB);clear hs2 hB)
        | (go_at_call 54;refine (HFI.out _).mono ?_;rintro e w3 ⟨rfl,rfl⟩)
        | (go_at_call 29;refine (HP2.out _ (HM.out.at_ (k+1) (by go_num))).mono ?_;rintro e w5 ⟨rfl,hB⟩;have hs5:=(HM.out.at_ (k+1) (show ((k:Int)+1)=_ by go_num)).past hB;obtain ⟨-,c1,c2,f1,f2⟩:=hs5.cells;have HM:=hd_ hs5;have HG:=hd_ (a4_ (a2_ HG.out (aU_ _ _ _ _)) hB);clear hB hs5)
        | (go_at_call 107;refine (HQ'.out _ (HM.out.at_ (k+2) (by go_num))).mono ?_;rintro e w8 ⟨A8,c8,rfl,hn8,hs8,hG8⟩;have HM:=hd_ hs8;have HG:=hd_ (a2_ (a2_ HG.out (aU_ _ _ _ _)) hG8);have h8:=HG.out.size;have H0:=hd_ (d3_ (w:=w8) (base:=w8.heap.size) (e:=61) (size:=3) (g:=w8.heap.size) (n:=1) #[.int .i64 3,.string S,.int .i64 (n:Nat)] rfl (Nat.le_refl _) (by simp [maxLen]) si_);have HA:=hd_ (hn8.1.1.alloc (.cells #[.int .i64 3,.string S,.int .i64 (n:Nat)] 61));have HT:Hid (∀ z ∈ x,z.text.size<=maxLen):=hd_ hn8.1.2.2;clear hn8 hs8 hG8)
        | (at_builtin;refine b4_ _ rfl (.tmp 144) (.tmp 145) _ rfl w8.heap.size 61 i0 _ 3 32 Tryz.underlying59 hi0 hz0 hz1 hz2 rfl om_ _ 1 _ rfl H0.out _ A8 x.length c8 _ rfl HA.out (e1_ x) (by simp only [maxLen];omega) om_ si_ ?_;intro v9 w9 hown9 hg9 hat9;clear hat9;have hB9:Below w8.heap.size w8 w9:=bA_ (aE_) H0.out hg9 si_ (Nat.le_refl _);obtain ⟨A9,c9,hv9⟩:=b7_ hown9;subst hv9;have HM:=hd_ (HM.out.past hB9);have HG:=hd_ (a4_ HG.out hB9);have H9:=hd_ hown9;clear hown9 hg9 hB9))
       go_ret;rw [HRES.out];exact ⟨A9,c9,by rw [List.length_cons,Nat.add_comm];rfl,j3_ (d:=⟨3,S,(n:Nat)⟩) (x:=x) (c:=c9) (n:=1+x.length) (by simpa using H9.out) om_ om_ HSZ.out HT.out h8,HM.out,HG.out⟩
end
section
def e5_ (t u:ByteArray):ByteArray:=(if 0<t.size/\0<u.size then t++⟨#[32]⟩ else t)++u
def sK_ (t p:ByteArray):ByteArray:=e5_ t p
def e9_ (l:List ByteArray):ByteArray:=l.foldl sK_ .empty
theorem sP_ (l:List ByteArray) (p:ByteArray):e9_ (l++[p])=sK_ (e9_ l) p:=by simp [e9_]
def g3_ (w:ByteArray):ByteArray:=e9_ (aJ_ (w.extract 1 w.size))
def f8_ (out:List (List Nd)):Option ByteArray->List (List Nd)
 | none=>out
 | some t=>out++[[⟨9,t,0⟩]]
def gS_ (pe:Option ByteArray) (w:ByteArray):ByteArray:=match pe with
 | none=>g3_ w
 | some b=>e5_ b (g3_ w)
def gF_ (ws:List ByteArray):Nat->List (List Nd)->Option ByteArray->Nat->Except Nat (List (List Nd))
 | 0,out,pe,_=>.ok (f8_ out pe)
 | j+1,out,pe,k=>if k<ws.length then
   if bI_ (a3_ ws k)=true then gF_ ws j out (some (gS_ pe (a3_ ws k))) (k+1)
   else match cN_ ws k with
    | .error e=>.error e
    | .ok (x,k')=>gF_ ws j (f8_ out pe++[x]) none k'
  else .ok (f8_ out pe)
theorem kR_ {ws:List ByteArray} {j k:Nat} {out:List (List Nd)} {pe:Option ByteArray} (h:ws.length<=k):gF_ ws j out pe k=.ok (f8_ out pe):=by
 cases j with
 | zero=>rfl
 | succ j=>rw [gF_,if_neg om_]
theorem oX_ {ws:List ByteArray} {j k:Nat} {out:List (List Nd)} {pe:Option ByteArray} (h:bI_ (a3_ ws k)=true):gF_ ws (j+1) out pe k=gF_ ws j out (some (gS_ pe (a3_ ws k))) (k+1):=by
 rw [gF_,if_pos (hX_ h),if_pos h]
theorem y6_ {ws:List ByteArray} {j k e:Nat} {out:List (List Nd)} {pe:Option ByteArray} (hk:k<ws.length) (h:bI_ (a3_ ws k)=false) (hs:cN_ ws k=.error e):gF_ ws (j+1) out pe k=.error e:=by
 rw [gF_,if_pos hk,if_neg (by rw [h];decide),hs]
theorem v8_ {ws:List ByteArray} {j k k':Nat} {out:List (List Nd)} {pe:Option ByteArray} {x:List Nd} (hk:k<ws.length) (h:bI_ (a3_ ws k)=false) (hs:cN_ ws k=.ok (x,k')):gF_ ws (j+1) out pe k=gF_ ws j (f8_ out pe++[x]) none k':=by
 rw [gF_,if_pos hk,if_neg (by rw [h];decide),hs]
theorem afB_ (a:List (List UInt8)) (y:List UInt8) (b:List (List UInt8)):Lib.joinTail [32] (a++y::b)=Lib.joinTail [32] a++32::Lib.join (y::b) [32]:=by
 induction a with
 | nil=>rw [List.nil_append,hO_];rfl
 | cons x r ih =>
  rw [List.cons_append,hO_,hO_,Lib.join_cons x (r++y::b),ih,Lib.join_cons x r];simp
theorem uK_ {a b:List (List UInt8)} (ha:a≠[]) (hb:b≠[]):Lib.join (a++b) [32]=Lib.join a [32]++32::Lib.join b [32]:=by
 cases a with
 | nil=>exact absurd rfl ha
 | cons x r =>
  cases b with
  | nil=>exact absurd rfl hb
  | cons y b =>
   rw [List.cons_append,Lib.join_cons,afB_,Lib.join_cons x r];simp
theorem n5_ {a:List (List UInt8)} (h:∀ x ∈ a,x≠[]):Lib.join a [32]=[]↔a=[]:=by
 cases a with
 | nil=>simp [Lib.join_nil]
 | cons x r =>
  rw [Lib.join_cons]
  constructor
  ·intro e;exact absurd (List.append_eq_nil_iff.1 e).1 (h x si_)
  ·intro e;cases e
theorem lN_ (t:ByteArray):0<t.size↔t.data.toList≠[]:=by
 have h:t.data.toList.length=t.size:=by simp
 rw [← h]
 cases t.data.toList <;> simp
theorem n0_ (t u:ByteArray):(e5_ t u).data.toList=if t.data.toList≠[]/\u.data.toList≠[] then t.data.toList++32::u.data.toList else t.data.toList++u.data.toList:=by
 unfold e5_
 by_cases h:0<t.size/\0<u.size
 ·rw [if_pos h,if_pos ⟨(lN_ t).1 h.1,(lN_ u).1 h.2⟩];simp
 ·rw [if_neg h,if_neg (fun hh=>h ⟨(lN_ t).2 hh.1,(lN_ u).2 hh.2⟩)];simp
theorem u5_ {a b:ByteArray} (h:a.data.toList=b.data.toList):a=b:=by
 apply ByteArray.ext;exact Array.toList_inj.1 h
theorem aaC_ {l:List (List UInt8)}:∀ x ∈ full l,x≠[]:=by
 intro x hx e;simp [full,e] at hx
theorem aj7_ (a b:List (List UInt8)):full (a++b)=full a++full b:=by simp [full]
theorem adN_:∀ (n:Nat) (l:List ByteArray),l.length=n->(e9_ l).data.toList=Lib.join (full (l.map (·.data.toList))) [32]:=by
 intro n
 induction n with
 | zero=>intro l h;have:l=[]:=List.eq_nil_of_length_eq_zero h;subst this;rfl
 | succ n ih =>
  intro l h;have hne:l≠[]:=by intro e;rw [e] at h;simp at h
  obtain ⟨r,p,rfl⟩:∃ r c,l=r++[c]:=⟨l.dropLast,l.getLast hne,(List.dropLast_concat_getLast hne).symm⟩;have hr:=ih r (by simp at h;exact h);rw [sP_,sK_,n0_,hr,List.map_append,aj7_];have hj:=n5_ (a:=full (r.map (·.data.toList))) aaC_
  by_cases hp:p.data.toList=[]
  ·rw [if_neg (fun hh=>hh.2 hp),hp];simp [full,hp]
  ·have hfp:full ([p].map (·.data.toList))=[p.data.toList]:=by simp [full,hp]
   rw [hfp]
   by_cases ha:full (r.map (·.data.toList))=[]
   ·rw [if_neg (fun hh=>hh.1 (hj.2 ha)),ha];simp [Lib.join_nil,Lib.join_one]
   ·rw [if_pos ⟨fun e=>ha (hj.1 e),hp⟩,uK_ ha si_,Lib.join_one]
theorem oM_ {w:ByteArray} (h:bI_ w=true) (ha:asc w):g3_ w=e7_ (eY_ w):=by
 apply u5_;obtain ⟨c,r,hw⟩:∃ c r,w.data.toList=c::r:=by
  cases hc:w.data.toList with
  | nil=>simp [bI_,Lib.hasPrefix,hc] at h
  | cons c r=>exact ⟨c,r,rfl⟩
 have hx:(w.extract 1 w.size).data.toList=r:=by
  rw [Lib.extract_data,hw];have hl:(c::r).length=w.size:=by rw [← hw];simp
  simp only [List.drop_succ_cons,List.drop_zero];rw [List.take_of_length_le];simp only [List.length_cons] at hl;omega
 unfold g3_;rw [adN_ _ _ rfl,iH_,hx];unfold e7_;rw [l4_ hw ha]
 by_cases h0:r=[]
 ·rw [if_pos h0,h0];rfl
 ·rw [if_neg h0]
theorem asR_ (w:ByteArray) (h:bI_ w=true) (ha:asc w):∀ x ∈ eY_ w,x.data.toList≠[]:=by
 obtain ⟨c,r,hw⟩:∃ c r,w.data.toList=c::r:=by
  cases hc:w.data.toList with
  | nil=>simp [bI_,Lib.hasPrefix,hc] at h
  | cons c r=>exact ⟨c,r,rfl⟩
 have e:=l4_ hw ha;intro x hx;exact aaC_ (l:=spl r) _ (by rw [← e];exact List.mem_map.2 ⟨x,hx,rfl⟩)
theorem af5_ {a b:List ByteArray} (ha:∀ x ∈ a,x.data.toList≠[]) (hb:∀ x ∈ b,x.data.toList≠[]):e5_ (e7_ a) (e7_ b)=e7_ (a++b):=by
 apply u5_;have hJ:∀ l:List ByteArray,(e7_ l).data.toList=Lib.join (l.map (·.data.toList)) [32]:=fun _=>rfl
 have ja:(e7_ a).data.toList=[]↔a.map (·.data.toList)=[]:=by rw [hJ];exact n5_ (a:=a.map (·.data.toList)) (by intro x hx;obtain ⟨y,hy,rfl⟩:=List.mem_map.1 hx;exact ha y hy)
 have jb:(e7_ b).data.toList=[]↔b.map (·.data.toList)=[]:=by rw [hJ];exact n5_ (a:=b.map (·.data.toList)) (by intro x hx;obtain ⟨y,hy,rfl⟩:=List.mem_map.1 hx;exact hb y hy)
 rw [n0_]
 by_cases h1:a.map (·.data.toList)=[]
 ·rw [if_neg (fun hh=>hh.1 (ja.2 h1)),ja.2 h1,hJ,hJ,List.map_append,h1];rfl
 ·by_cases h2:b.map (·.data.toList)=[]
  ·rw [if_neg (fun hh=>hh.2 (jb.2 h2)),jb.2 h2,hJ,hJ,List.map_append,h2,List.append_nil,List.append_nil]
  ·rw [if_pos ⟨fun e=>h1 (ja.1 e),fun e=>h2 (jb.1 e)⟩,hJ,hJ,hJ,List.map_append,uK_ h1 h2]
def AscW (ws:List ByteArray):Prop:=∀ j,bI_ (a3_ ws j)=true->asc (a3_ ws j)
theorem agE_ {ws:List ByteArray} (ha:AscW ws):∀ (n k:Nat),ws.length<=k+n ->
  (∀ (j1 j2:Nat) (out:List (List Nd)),ws.length<=k+j1->ws.length<=k+j2->gF_ ws j1 out none k=d9_ ws j2 out k) /\
  (∀ (j1 j2 f:Nat) (out:List (List Nd)) (L:List ByteArray),ws.length<=k+j1->ws.length<=k+j2->ws.length<=k+f->(∀ x ∈ L,x.data.toList≠[]) ->
   gF_ ws j1 out (some (e7_ L)) k=d9_ ws j2 (out++[[⟨9,e7_ (bX_ ws f L k).1,0⟩]]) (bX_ ws f L k).2):=by
 intro n
 induction n with
 | zero =>
  intro k hk;refine ⟨fun j1 j2 out _ _=>?_,fun j1 j2 f out L _ _ _ _=>?_⟩
  ·rw [kR_ om_,i5_ om_];rfl
  ·have e:bX_ ws f L k=(L,k):=by
    cases f with
    | zero=>rfl
    | succ f =>
     rw [bX_,if_neg];intro h;have:=hX_ h;omega
   rw [kR_ om_,e,i5_ (by simp only;omega)];rfl
 | succ n ih =>
  intro k hk
  rcases Nat.lt_or_ge k ws.length with hlt|hge
  case inr =>
   refine ⟨fun j1 j2 out _ _=>?_,fun j1 j2 f out L _ _ _ _=>?_⟩
   ·rw [kR_ hge,i5_ hge];rfl
   ·have e:bX_ ws f L k=(L,k):=by
     cases f with
     | zero=>rfl
     | succ f =>
      rw [bX_,if_neg];intro h;have:=hX_ h;omega
    rw [kR_ hge,e,i5_ hge];rfl
  cases hh:bI_ (a3_ ws k) with
  | true =>
   have hI:=(ih (k+1) om_).2;have hf:=asR_ _ hh (ha k hh);refine ⟨fun j1 j2 out h1 h2=>?_,fun j1 j2 f out L h1 h2 h3 hL=>?_⟩
   ·obtain ⟨i1,rfl⟩:∃ i,j1=i+1:=⟨j1-1,by omega⟩;obtain ⟨i2,rfl⟩:∃ i,j2=i+1:=⟨j2-1,by omega⟩;rw [oX_ hh,nN_ hh];have e1:gS_ none (a3_ ws k)=e7_ (eY_ (a3_ ws k)):=oM_ hh (ha k hh);rw [e1,hI i1 i2 (ws.length-1) out _ om_ om_ om_ hf];have e2:bX_ ws ws.length [] k=bX_ ws (ws.length-1) (eY_ (a3_ ws k)) (k+1):=by
     obtain ⟨f,hf⟩:∃ f,ws.length=f+1:=⟨ws.length-1,by omega⟩;rw [hf,bX_,if_pos hh];rfl
    unfold f6_;rw [e2]
   ·obtain ⟨i1,rfl⟩:∃ i,j1=i+1:=⟨j1-1,by omega⟩;obtain ⟨g,rfl⟩:∃ i,f=i+1:=⟨f-1,by omega⟩;rw [oX_ hh,bX_,if_pos hh];have e1:gS_ (some (e7_ L)) (a3_ ws k)=e7_ (L++eY_ (a3_ ws k)):=by
     show e5_ (e7_ L) (g3_ (a3_ ws k))=_
     rw [oM_ hh (ha k hh),af5_ hL hf]
    rw [e1];exact hI i1 j2 g out _ om_ om_ om_ (by
     intro x hx
     rcases List.mem_append.1 hx with hx|hx
     ·exact hL x hx
     ·exact hf x hx)
  | false =>
   have key:∀ (j1 j2:Nat) (out:List (List Nd)) (pe:Option ByteArray),ws.length<=k+j1->ws.length<=k+j2->gF_ ws j1 out pe k=d9_ ws j2 (f8_ out pe) k:=by
    intro j1 j2 out pe h1 h2;obtain ⟨i1,rfl⟩:∃ i,j1=i+1:=⟨j1-1,by omega⟩;obtain ⟨i2,rfl⟩:∃ i,j2=i+1:=⟨j2-1,by omega⟩
    cases hs:cN_ ws k with
    | error e=>rw [y6_ hlt hh hs,v7_ hlt hh hs]
    | ok r =>
     obtain ⟨x,k'⟩:=r;obtain ⟨g1,g2,g3,g4⟩:=(vI_ ws k om_).1 x k' hs;rw [v8_ hlt hh hs,nO_ hlt hh hs];exact (ih k' om_).1 i1 i2 _ om_ om_
   refine ⟨fun j1 j2 out h1 h2=>key j1 j2 out none h1 h2,fun j1 j2 f out L h1 h2 h3 hL=>?_⟩;have e:bX_ ws f L k=(L,k):=by
    cases f with
    | zero=>rfl
    | succ f=>rw [bX_,if_neg (by rw [hh];decide)]
   rw [e];exact key j1 j2 out (some (e7_ L)) h1 h2
theorem apB_ {ws:List ByteArray} (ha:AscW ws):gF_ ws ws.length [] none 0=d9_ ws ws.length [] 0:=(agE_ ha ws.length 0 om_).1 _ _ _ om_ om_
theorem aa5_ {w:List UInt8} (h:rG_ w) {r:List UInt8} (e:w=35::r):∀ c ∈ w,prB c=true:=by
 have hl:=h.lex 0;subst e;have h1:((35:UInt8)==32||(35:UInt8)==10)=false:=by decide
 cases hb:(aZ_ (35::r)).2 with
 | false=>rw [kN_ h1 hb] at hl;simp at hl
 | true =>
  rw [g8_ h1 hb] at hl;have hh:bJ_ ((35::r).take (aZ_ (35::r)).1)=35::r:=by
   have:=congrArg (fun x=>x.1.head?.map (·.2)) hl
   simpa using this
  have hn:((35:UInt8)::r).length<=(aZ_ (35::r)).1:=by
   have a1:=kV_ ((35::r).take (aZ_ (35::r)).1);rw [hh,List.length_take] at a1;omega
  have hf:aZ_ (35::r)=(aX_ nlB (35::r),decide (aX_ nlB (35::r)<=aX_ prB (35::r))):=by
   rw [c9_,if_neg de_,if_neg de_,if_pos de_]
  rw [hf] at hb hn;simp only [decide_eq_true_eq] at hb;intro c hc;exact p1_ (35::r) (35::r).length (Nat.le_trans hn hb) c (by rw [List.take_length];exact hc)
theorem sR_ (s:ByteArray):AscW (bF_ s):=by
 intro j hj;have hlt:=hX_ hj;rw [iM_] at hlt;rw [lT_ hlt] at hj ⊢;have hw:=lD_ _ 0 s.data.toList (Nat.le_refl _) _ (List.getElem_mem (l:=b1_ s) hlt);generalize ((b1_ s)[j]).2=w at *;have hh:Lib.hasPrefix w [35]=true:=hj
 cases w with
 | nil=>simp [Lib.hasPrefix] at hh
 | cons c r =>
  have hc:c=35:=by simp [Lib.hasPrefix] at hh;exact hh.symm
  subst hc;intro d hd;have:=aa5_ hw rfl d hd;simp [prB] at this;omega
theorem ae2_ (s:ByteArray):∀ j,j<(bF_ s).length->0<(a3_ (bF_ s) j).size:=by
 intro j hj;rw [iM_] at hj;rw [lT_ hj];have hw:=lD_ _ 0 s.data.toList (Nat.le_refl _) _ (List.getElem_mem (l:=b1_ s) hj);have:=hw.pos
 simpa [ByteArray.size] using this
theorem n1_ (t u:ByteArray):(e5_ t u).size<=t.size+u.size+1:=by
 have h1:(e5_ t u).data.toList.length=(e5_ t u).size:=by simp
 have h2:t.data.toList.length=t.size:=by simp
 have h3:u.data.toList.length=u.size:=by simp
 rw [n0_] at h1
 split at h1 <;> simp at h1 <;> omega
theorem zM_ {w:ByteArray} (h:bI_ w=true) (ha:asc w):(g3_ w).size<=w.size:=by
 rw [oM_ h ha];exact Nat.le_trans (k0_ _) (qT_ h)
end
section
open Go.RowKit
theorem ak5_ {g cw k:Nat} {W:Option Addr} {ws:List ByteArray} (r:PrR) (w:World) (H:Hid (Calls Tryz.prog 55 #[.pointer (some ⟨g,0,none⟩)] w (e6_ g W cw ws k r w))) :
  Calls Tryz.prog 32 #[.pointer (some ⟨g,0,none⟩),.int .i64 2] w (e6_ g W cw ws k r w):=by
 cases r with
 | error x =>
  go_enter Tryz.func32,Tryz.ntmps32;go_wp2_with (go_at_call 55;refine H.out.mono ?_;rintro e w1 ⟨A1,c1,d0,rfl,h1,h2,h3,h4⟩);go_ret;exact ⟨A1,c1,d0,rfl,h1,h2,h3,h4⟩
 | ok r =>
  obtain ⟨d,k'⟩:=r;go_enter Tryz.func32,Tryz.ntmps32;go_wp2_with (go_at_call 55;refine H.out.mono ?_;rintro e w1 ⟨A1,c1,rfl,h2,h3,h4⟩);go_ret;exact ⟨A1,c1,rfl,h2,h3,h4⟩
theorem apC_ {g cw:Nat} {W:Option Addr} {ws:List ByteArray} (hdg:DgW ws) (hne:∀ j,j<ws.length->0<(a3_ ws j).size):∀ f:Nat,
  (∀ (k:Nat) (w:World),aO_ g W cw ws k false w->k<=ws.length->3*(ws.length-k)+3<=f->Calls Tryz.prog 32 #[.pointer (some ⟨g,0,none⟩),.int .i64 0] w (e6_ g W cw ws k (pE ws f 0 k) w)) /\
  (∀ (k:Nat) (w:World),aO_ g W cw ws k false w->k<=ws.length->3*(ws.length-k)+2<=f->Calls Tryz.prog 32 #[.pointer (some ⟨g,0,none⟩),.int .i64 1] w (e6_ g W cw ws k (pE ws f 1 k) w)) /\
  (∀ (k:Nat) (w:World),aO_ g W cw ws k false w->k<=ws.length->3*(ws.length-k)+1<=f->Calls Tryz.prog 32 #[.pointer (some ⟨g,0,none⟩),.int .i64 2] w (e6_ g W cw ws k (pE ws f 2 k) w)):=by
 intro f
 induction f with
 | zero=>exact ⟨fun k w _ _ h=>by omega,fun k w _ _ h=>by omega,fun k w _ _ h=>by omega⟩
 | succ f ih =>
  obtain ⟨i0,i1,i2⟩:=ih;refine ⟨fun k w hs hk h=>?_,fun k w hs hk h=>?_,fun k w hs hk h=>?_⟩
  ·rw [tK_];exact ak3_ (pE ws f 1) (j0_ ws f 1) k (hd_ (fun k' w' h' a b=>i1 k' w' h' b om_)) w hs hk
  ·rw [sC_];exact ak4_ (pE ws f 2) (j0_ ws f 2) k (hd_ (fun k' w' h' a b=>i2 k' w' h' b om_)) w hs hk
  ·rw [kP_];exact ak5_ _ w (hd_ (aa0_ (pE ws f 0) (j0_ ws f 0) hdg hne k (hd_ (fun k' w' h' a b=>i0 k' w' h' b om_)) w hs hk))
theorem ak6_ {g cw k:Nat} {W:Option Addr} {ws:List ByteArray} (hdg:DgW ws) (hne:∀ j,j<ws.length->0<(a3_ ws j).size) (w:World) (hs:aO_ g W cw ws k false w) (hk:k<=ws.length) :
  Calls Tryz.prog 32 #[.pointer (some ⟨g,0,none⟩),.int .i64 0] w (e6_ g W cw ws k (pX ws k) w) :=
 (apC_ hdg hne _).1 k w hs hk om_
theorem ak7_ {g cw k:Nat} {W:Option Addr} {ws:List ByteArray} (w:World) (hs:aO_ g W cw ws k true w) (hk:k<=ws.length) :
  Calls Tryz.prog 32 #[.pointer (some ⟨g,0,none⟩),.int .i64 0] w (e6_ g W cw ws k (.error k) w) :=
 (qC_ w hs).mono (by rintro e w8 ⟨rfl,h8,hG⟩;exact ⟨none,0,[],rfl,by simp;omega,⟨⟨Sl.nil_,by simp [maxLen],by simp⟩,fun _ e=>by cases e⟩,h8,hG⟩)
structure eV_ (g:Nat) (W:Option Addr) (cw:Nat) (ws:List ByteArray) (w2:World) (out:List (List Nd)) (k:Nat) (bad:Bool) (v:Value) (vs:List Value) (w:World):Prop where
 st:aO_ g W cw ws k bad w
 row:w2.grownBy w (some g)
 lt:g<w2.heap.size
 own:w.ownsRow w2.heap.size 59 1 v out.length vs
 els:jQ_ w w2.heap.size v.ownBlock vs out
section
variable {g cw k k':Nat} {W:Option Addr} {ws:List ByteArray} {w2 w w':World} {out:List (List Nd)} {bad bad':Bool} {v:Value} {vs:List Value}
theorem eV_.start {g cw:Nat} {W:Option Addr} {ws:List ByteArray} {w:World} (hs:aO_ g W cw ws 0 false w):eV_ g W cw ws w [] 0 false (.slice none 0 0) [] w :=
 ⟨hs,World.grownBy.refl _ _,hs.lt,World.ownsRow_nil _ _ _ _,⟨rfl,fun j v hv=>by simp at hv⟩⟩
theorem eV_.past (h:eV_ g W cw ws w2 out k bad v vs w) (hb:Below w.heap.size w w'):eV_ g W cw ws w2 out k bad v vs w' :=
 ⟨h.st.past hb,a4_ h.row hb,h.lt,aV_ h.own hb,h.els.grow (eH_ hb) (fun _ e=>by cases e)⟩
theorem eV_.size (h:eV_ g W cw ws w2 out k bad v vs w):w2.heap.size<=w.heap.size:=h.row.size
theorem eV_.call (h:eV_ g W cw ws w2 out k bad v vs w) (hs:aO_ g W cw ws k' bad' w') (hg:w.grownBy w' (some g)):eV_ g W cw ws w2 out k' bad' v vs w':=by
 have hlt:=h.lt;exact ⟨hs,a2_ h.row hg,hlt,cD_ h.own hg hlt,h.els.grow hg (fun k e=>by cases e;exact hlt)⟩
theorem eV_.at_ (h:eV_ g W cw ws w2 out k bad v vs w) (j:Nat) {x:Int} (hx:x=j):eV_ g W cw ws w2 out j bad v vs (w.setCell ⟨g,1,none⟩ (.int .i64 x)):=h.call (h.st.at_ j hx) (aU_ _ _ _ _)
theorem eV_.app {lo c:Nat} {A:Option Addr} {u:List Nd} {v':Value} (h:eV_ g W cw ws w2 out k bad v vs w) (hA:NdF lo w A u) (hlo:w2.heap.size<=lo) (hk:∀ k,v.ownBlock=some k->k<lo) (hs:dP_ u) (hu:0<u.length)
  (ho:w'.ownsRow w2.heap.size 59 1 v' (out.length+1) (vs++[.slice A u.length c])) (hg:w.grownBy w' v.ownBlock) (hat:v'.ownBlock=v.ownBlock∨v'.ownBlock=some w.heap.size) :
  eV_ g W cw ws w2 (out++[u]) k bad v' (vs++[.slice A u.length c]) w':=by
 have hlt:=h.lt;have hB:Below w2.heap.size w w':=bA_ (Below.refl _ _) h.own hg h.size (Nat.le_refl _);refine ⟨h.st.under hB hlt,c2_ h.row hB (Nat.le_refl _),hlt,by rw [List.length_append];exact ho,h.els.app hg hat hA hlo hk hs hu⟩
theorem eV_.lows (h:eV_ g W cw ws w2 out k bad v vs w):∀ k,v.ownBlock=some k->k<w.heap.size:=fun k e=>(h.own.lt k e).2
theorem eV_.last {o:List (List Nd)} {u0:Nd} (h:eV_ g W cw ws w2 (o++[[u0]]) k bad v vs w):∃ b c b' off cj,v=.slice (some ⟨b,0,none⟩) (o.length+1) c/\w2.heap.size<=b/\b<w.heap.size/\w.cell? ⟨b,o.length,none⟩=some (.slice (some ⟨b',off,none⟩) 1 cj)/\w.frozen? ⟨b,o.length,none⟩=false/\w.cell? ⟨b',off+1,none⟩=some (.string u0.text)/\b'<w.heap.size:=by
 have hl:(o++[[u0]]).length=o.length+1:=by simp
 have ho:=h.own;rw [hl] at ho;obtain ⟨hlen,⟨-,h0⟩|⟨b,cap,cur,rfl,hb1,hb2,hn,hm,hcs,htk⟩⟩:=ho
 ·omega
 have hbl:b<w.heap.size:=(Array.getElem?_eq_some_iff.1 hb2).1;simp only [Nat.mul_one] at hlen htk hcs;have hvl:o.length<vs.length:=by omega
 obtain ⟨Aj,cj,u,e1,e2,e3,e4,e5,e6⟩:=h.els.els o.length vs[o.length] (by simp [hvl]);have hu:u=[u0]:=by simpa using e1.symm
 subst hu;obtain ⟨b',off,rfl,hlo,hb'⟩:=e3.block si_;refine ⟨b,cap,b',off,cj,rfl,hb1,hbl, ?_,Lib.frozen_of_heap hb2 _, ?_,hb'⟩
 ·rw [Lib.cell_of_heap hb2,← Array.getElem?_toList];have hc:cur.toList[o.length]?=vs[o.length]?:=by
   rw [← htk,List.getElem?_take_of_lt om_]
  rw [hc,List.getElem?_eq_getElem hvl,e2];rfl
 ·obtain ⟨⟨⟨h1,h2⟩,-,-⟩,-⟩:=e3;obtain ⟨b2,off2,e7,-,hcell⟩:=h2 si_
  cases e7
  exact hcell 1 _ (by simp [cJ_])
theorem eV_.put {o:List (List Nd)} {u0 u:List Nd} {b c lo cu:Nat} {A:Option Addr} (h:eV_ g W cw ws w2 (o++[u0]) k bad (.slice (some ⟨b,0,none⟩) (o.length+1) c) vs w) (hA:NdF lo w A u) (hlo:w2.heap.size<=lo) (hb:b<lo) (hs:dP_ u) (hu:0<u.length) :
  ∃ vs',eV_ g W cw ws w2 (o++[u]) k bad (.slice (some ⟨b,0,none⟩) (o.length+1) c) vs' (w.setCell ⟨b,o.length,none⟩ (.slice A u.length cu)):=by
 have hlt:=h.lt;have hl:(o++[u0]).length=o.length+1:=by simp
 have ho:=h.own;have he:=h.els;have hgw:=h.size;rw [hl] at ho;obtain ⟨hlen,⟨h0,-⟩|⟨b2,cap,cur,e0,hb1,hb2,hn,hm,hcs,htk⟩⟩:=ho
 ·cases h0
 injection e0 with e1 e2 e3;injection e1 with e1;injection e1 with e1;subst e1 e3;have hbl:b<w.heap.size:=(Array.getElem?_eq_some_iff.1 hb2).1;simp only [Nat.mul_one] at hlen htk hcs;have hg:w.grownBy (w.setCell ⟨b,o.length,none⟩ (.slice A u.length cu)) (some b):=aU_ _ _ _ _;have hB:Below w2.heap.size w (w.setCell ⟨b,o.length,none⟩ (.slice A u.length cu)):=(Below.refl _ _).setCell (p:=⟨b,o.length,none⟩) hb1 _;have hnewb:(w.setCell ⟨b,o.length,none⟩ (.slice A u.length cu)).heap[b]?=some (.cells (cur.setIfInBounds o.length (.slice A u.length cu)) 59 (0,0)):=by
  simp [World.setCell,Array.getElem?_modify,hb2]
 have hA':∀ ad,A=some ad->(some b:Option Nat)≠some ad.block:=fun ad e e2=>by
  injection e2 with e2;have h2:=hA.2 ad e;omega
 refine ⟨vs.set o.length (.slice A u.length cu),h.st.under hB hlt,c2_ h.row hB (Nat.le_refl _),hlt, ?_, ?_, ?_⟩
 ·refine ⟨by simp [hlen],.inr ⟨b,c,_,by simp,hb1,hnewb,by simpa using hn,hm,by simpa using hcs, ?_⟩⟩;simp only [Nat.mul_one,List.length_append,List.length_cons,List.length_nil,Nat.zero_add,Array.toList_setIfInBounds];rw [← htk,List.take_set]
 ·simp [hlen]
 ·intro j x hx
  rcases Nat.lt_trichotomy j o.length with hj|hj|hj
  ·rw [List.getElem?_set_ne om_] at hx;obtain ⟨Aj,cj,y,g1,g2,g3,g4,g5,g6⟩:=he.els j x hx;rw [List.getElem?_append_left hj] at g1;exact ⟨Aj,cj,y,by rw [List.getElem?_append_left hj];exact g1,g2,g3.keep hg g4,g4,g5,g6⟩
  ·subst hj;rw [List.getElem?_set_self om_] at hx;injection hx with hx;subst hx;exact ⟨A,cu,u,by simp,rfl,(hA.less hlo).keep hg hA',hA',hs,hu⟩
  ·rw [List.getElem?_eq_none so_] at hx
   cases hx
end
end
section
theorem aoB_ {S:ByteArray} (h0:0<S.size):bI_ S=(S[0]==35):=by
 obtain ⟨l⟩:=S;obtain ⟨l⟩:=l
 cases l with
 | nil=>simp [ByteArray.size] at h0
 | cons c r =>
  show ((35:UInt8)==c&&List.isPrefixOf [] r)=(c==35)
  rw [Bool.eq_iff_iff];simp only [List.isPrefixOf,Bool.and_true,beq_iff_eq];exact ⟨Eq.symm,Eq.symm⟩
theorem n2_ {S:ByteArray} {b:Bool} (h0:0<S.size) (h:bI_ S=b):((S[0].toNat:Int)==35)=b:=by
 rw [aoB_ h0] at h;rw [← h,Bool.eq_iff_iff,beq_iff_eq,beq_iff_eq]
 constructor
 ·intro e;apply UInt8.toNat_inj.1;have:S[0].toNat=35:=by omega
  rw [this];rfl
 ·intro e;rw [e];rfl
theorem vF_ {ws:List ByteArray} {k:Nat} (h:isW ws k [59]=true):bI_ (a3_ ws k)=false:=by
 have e:(a3_ ws k).data.toList=[59]:=by
  rw [← ByteArray.toList_eq]
  simpa [isW] using h
 unfold bI_ Lib.hasPrefix;rw [e]
 decide
theorem xA_ (t u:ByteArray):t.size<=(e5_ t u).size:=by
 unfold e5_
 split <;> simp <;> omega
theorem uG_ (t u:ByteArray) (h:0<t.size) (h2:0<u.size):e5_ t u=t++⟨#[32]⟩++u:=by rw [e5_,if_pos ⟨h,h2⟩]
theorem l5_ (t u:ByteArray) (h:¬ (0<t.size/\0<u.size)):e5_ t u=t++u:=by rw [e5_,if_neg h]
theorem aj6_:∀ (r:List ByteArray) (t:ByteArray),t.size<=(r.foldl sK_ t).size:=by
 intro r
 induction r with
 | nil=>intro t;exact Nat.le_refl _
 | cons p r ih=>intro t;exact Nat.le_trans (xA_ t p) (ih _)
theorem yR_ (l:List ByteArray) (m:Nat):(e9_ (l.take m)).size<=(e9_ l).size:=by
 have h:e9_ l=(l.drop m).foldl sK_ (e9_ (l.take m)):=by
  unfold e9_;rw [← List.foldl_append,List.take_append_drop]
 rw [h];exact aj6_ _ _
theorem adO_ {l:List ByteArray} {m:Nat} (h:m<l.length):e9_ (l.take (m+1))=e5_ (e9_ (l.take m)) l[m]:=by
 rw [List.take_succ_eq_append_getElem h,sP_];rfl
theorem ahD_ {l:List ByteArray} {m:Nat} (h:l.length<=m):e9_ (l.take m)=e9_ l:=by rw [List.take_of_length_le h]
def ShP (k:Nat) (out:List (List Nd)):Prop:=∀ u ∈ out,TxB (60001*k) u
theorem ShP.note {k:Nat} {out:List (List Nd)} {pe:Option ByteArray} {S:ByteArray} (h:ShP k (f8_ out pe)) (hS:(g3_ S).size<=60000):ShP (k+1) (f8_ out (some (gS_ pe S))):=by
 intro u hu0;have hu1:u ∈ out++[[⟨9,gS_ pe S,0⟩]]:=hu0;clear hu0
 rcases List.mem_append.1 hu1 with hu|hu
 ·have hm:u ∈ f8_ out pe:=by
   clear hu1 h
   cases pe with
   | none=>exact hu
   | some t=>exact List.mem_append_left _ hu
  intro d hd;have:=h u hm d hd;omega
 ·rw [List.mem_singleton.1 hu];apply TxB.one
  show (gS_ pe S).size<=_
  cases pe with
  | none =>
   show (g3_ S).size<=_
   omega
  | some t =>
   have h1:=h [⟨9,t,0⟩] (by simp [f8_]) ⟨9,t,0⟩ si_;have h2:=n1_ t (g3_ S)
   show (e5_ t (g3_ S)).size<=_
   simp only at h1;omega
theorem ShP.last {k:Nat} {out:List (List Nd)} {t:ByteArray} (h:ShP k (f8_ out (some t))):t.size<=60001*k :=
 h [⟨9,t,0⟩] (by simp [f8_]) ⟨9,t,0⟩ si_
theorem ShP.stmt {k k':Nat} {out:List (List Nd)} {x:List Nd} (h:ShP k out) (hx:TxB 60000 x) (hk:k<k'):ShP k' (out++[x]):=by
 intro u hu d hd
 rcases List.mem_append.1 hu with hu|hu
 ·have:=h u hu d hd;omega
 ·rw [List.mem_singleton.1 hu] at hd;have:=hx d hd;omega
end
end Go.Proofs.YtddfdmopaeghnadGreatDoor
