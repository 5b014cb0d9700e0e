/- Walks of syn's parser: chain, mul, sum, many. With what it rests on. Conditions: as each theorem states them. -/
import Derived.Test.YtddfdmopaeghnadGreatDoorRqTk
import Derived.Deep.Cut
import Derived.Test.YtddfdmopaeghnadGreatDoorRqSh
import Derived.Deep.RegionLaw
import Derived.RegionDies
import Derived.Test.YtddfdmopaeghnadGreatDoorRqLx
import Derived.Recover
import Derived.Defers
import Derived.Laws.Pointers
import Derived.Test.YtddfdmopaeghnadGreatDoorRqTr
import Derived.BigQuiet
import Derived.Deep.QuietTactic
set_option maxRecDepth 100000
set_option maxHeartbeats 16000000
namespace Go.Proofs.YtddfdmopaeghnadGreatDoor
open Go.RowKit
theorem tree_info:(Tryz.prog.info? 61).map (fun i=>(i.zero,i.size,i.bytes))=some (some (.agg #[.int .i64 0,.string .empty,.int .i64 0]),3,32):=by kernel_rfl
theorem NdF.ownT {w:World} {base n:Nat} {A:Option Addr} {c:Nat} {l:List Nd} (h:w.ownsRow base 61 3 (.slice A n c) n (l.flatMap ndCells)) (hn:n=l.length) (hm:l.length<=maxLen) (ht:∀ d ∈ l,d.text.size<=maxLen):NdF base w A l:=by
 subst hn
 exact ⟨⟨.of_own h,hm,ht⟩,fun ad e=>by subst e;exact (h.lt ad.block rfl).1⟩
theorem own_litP {w:World} {base n g:Nat} {e:TypeId} {size:Nat} (cs:Array Value) (hg:w.heap.size=g) (hb:base<=g) (hm:n<=maxLen) (hs:cs.size=n*size) :
  (w.alloc (.cells cs e)).ownsRow base e size (.slice (some ⟨g,0,none⟩) n n) n cs.toList:=by
 subst hg
 exact World.ownsRow_lit w cs n hb hm hs
theorem ps_named {P:Program} {c:Code} {Q:Exit->Act->World->Prop} {a:Act} {w:World} (S:World->Prop) (hS:S w) (h:∀ w',S w'->Code.wp P c Q a w'):Code.wp P c Q a w:=h w hS
theorem grown_under {a w w':World} {g C:Nat} (h:a.grownBy w (some g)) (hb:Below C w w') (hC:a.heap.size<=C):a.grownBy w' (some g) :=
 ⟨hb.os.trans h.os,hb.tape.trans h.tape,hb.output.trans h.output,Nat.le_trans h.size hb.size,fun k hk hn=>(hb.block k (Nat.lt_of_lt_of_le hk hC)).trans (h.block k hk hn)⟩
theorem PsSt.under {g cw cp k C:Nat} {W P:Option Addr} {ws:List ByteArray} {ps:List Nat} {w w':World} (h:PsSt g W cw ws P cp ps k w) (hb:Below C w w') (hC:g<C):PsSt g W cw ws P cp ps k w' :=
 ⟨(hb.block g hC).trans h.blk,⟨h.txs.1.below hb (Nat.le_of_lt hC),h.txs.2⟩,h.pls.below hb (Nat.le_of_lt hC),h.len,h.few⟩
theorem own_past {w w':World} {base g:Nat} {e:TypeId} {size n:Nat} {v:Value} {xs:List Value} (h:w.ownsRow base e size v n xs) (hg:w.grownBy w' (some g)) (hb:g<base):w'.ownsRow base e size v n xs :=
 h.kept (row:=some g) hg (by
  cases hv:v.ownBlock with
  | none=>exact .inl rfl
  | some k=>exact .inr (fun e=>by have:=(h.lt k hv).1;simp at e;omega))
def vLen:Value->Nat
 | .slice _ n _=>n
 | _=>0
def PsTo (g:Nat) (W:Option Addr) (cw:Nat) (ws:List ByteArray) (P:Option Addr) (cp:Nat) (ps:List Nat) (r:PrR) (w:World) (e:Ending) (w':World):Prop :=
 match r with
 | .ok (d,k)=>∃ A c,e=.returned (.slice A d.length c)/\NdF w.heap.size w' A d/\PsSt g W cw ws P cp ps k w'/\w.grownBy w' (some g)
 | .error x=>PsBad g ps x w e w'
theorem rq62 {P:Prop} (h:P:=by
 have hlen:(⟨op,.empty,0⟩::(out++x):List Nd).length=1+out.length+x.length:=by simp;omega
 go_roundw
 case measure=>simp [vLen];omega
 case rel =>
  refine ⟨⟨op,.empty,0⟩::(out++x),k3,j,A9,c9,by rw [hlen],by omega,b2,by omega,by omega,HG.out.size,hd_ (NdF.less (NdF.ownT (n:=1+out.length+x.length) (c:=c9) ?_ hlen.symm (by rw [hlen];simp only [maxLen];omega) ?_) h4),HM,HG,HST⟩
  ·have:=H9.out
   rw [List.flatMap_cons,List.flatMap_append]
   simpa [ndCells] using this
  ·intro z hz
   simp only [List.mem_cons,List.mem_append] at hz
   rcases hz with rfl|hz|hz
   ·simp [maxLen]
   ·exact HT.out z hz
   ·exact HX.out.1.2.2 z hz):P:=h
theorem rq63 {P:Prop} (h:P:=by
 have hres:R=.ok (out,k2):=by
  rw [HR.out]
  cases j with
  | zero=>rfl
  | succ j=>rw [chainP,if_neg (by rw [hw];decide)]
 unfold isW at hw
 generalize wdAt ws k2=s at *
 have HRES:=hd_ hres
 clear hres
 go_wp2_with (go_at_call 80;refine HPK.out.mono ?_;rintro e w3 ⟨rfl,hB⟩;have HM:=hd_ (HM.out.past hB);have HG:=hd_ (grown_below HG.out hB);have HN:=hd_ (HN.out.past hB);clear hB)
 go_ret
 rw [HRES.out]
 exact ⟨A2,c2,rfl,HN.out,HM.out,HG.out⟩):P:=h
theorem chain_one {g cw cp:Nat} {W P:Option Addr} {ws:List ByteArray} {ps:List Nat} (part:Nat->PrR) (hgo:Goes ws part) (op:Int) (sg:ByteArray) (h0:sg.toList≠[]) (k:Nat)
  (HPART:Hid (∀ (k':Nat) (w:World),PsSt g W cw ws P cp ps k' w->k<=k'->k'<=ws.length->Calls Tryz.prog 218 #[.pointer (some ⟨g,0,none⟩)] w (PsTo g W cw ws P cp ps (part k') w)))
  (w:World) (hs:PsSt g W cw ws P cp ps k w) (hk:k<=ws.length) :
  Calls Tryz.prog 185 #[.pointer (some ⟨g,0,none⟩),.int .i64 op,.string sg,.func (.func 218) #[.pointer (some ⟨g,0,none⟩)] #[]] w (PsTo g W cw ws P cp ps (chainS ws op sg.toList part k) w):=by
 obtain ⟨R,hR⟩:∃ R,R=chainS ws op sg.toList part k:=⟨_,rfl⟩
 rw [← hR]
 unfold chainS at hR
 have H1:=HPART.out k w hs (Nat.le_refl _) hk
 obtain ⟨i0,hi0,hz0,hz1,hz2⟩:=info_parts tree_info
 have hf:=hs.few
 have hgl:=hs.lt
 cases hp:part k with
 | error x =>
  rw [hp] at H1 hR
  subst hR
  have H1:=hd_ H1
  clear hs hp hi0 hz0 hz1 hz2
  go_enter Tryz.func185,Tryz.ntmps185
  go_wp2_with (go_at_call 218;refine H1.out.mono ?_;rintro e w1 ⟨rfl,hG1⟩;have HG:=hd_ hG1;clear hG1)
  exact ⟨rfl,rfl,HG.out⟩
 | ok r =>
  obtain ⟨d0,k1⟩:=r
  rw [hp] at H1 hR
  simp only at hR
  obtain ⟨g1,g2,g3,g4⟩:=(hgo k hk).1 d0 k1 hp
  have H1:=hd_ H1
  have HGO:=hd_ hgo
  have HR:=hd_ hR
  clear hs hp hgo hR
  go_enter Tryz.func185,Tryz.ntmps185
  go_wp2_with (go_at_call 218;refine H1.out.mono ?_;rintro e w1 ⟨A1,c1,rfl,hn1,hs1,hG1⟩;have HN:=hd_ hn1;have HM:=hd_ hs1;have HG:=hd_ hG1;clear hn1 hs1 hG1)
  go_loopw [9] (fun v wr=>∃ (out:List Nd) (k2 j:Nat) (A2:Option Addr) (c2:Nat),v=.slice A2 out.length c2/\k<=k2/\k2<=ws.length/\ws.length<=k2+j/\out.length+k<=k2/\w.heap.size<=wr.heap.size/\Hid (NdF w.heap.size wr A2 out)/\Hid (PsSt g W cw ws P cp ps k2 wr)/\Hid (w.grownBy wr (some g))/\Hid (R=chainP ws op sg.toList part j out k2)) (fun v _=>60001-vLen v)
  case atStart=>exact ⟨d0,k1,ws.length,A1,c1,rfl,by omega,g2,by omega,g3,HG.out.size,HN,HM,HG,HR⟩
  case round =>
   obtain ⟨out,k2,j,A2,c2,rfl,hk2,hl2,hj,ho,hsz,HN,HM,HG,HR⟩:=hrel
   have HPK:=hd_ (peek_any wr HM.out hl2)
   cases hw:isW ws k2 sg.toList with
   | false =>
    exact rq63
   | true =>
    have hlt:k2<ws.length:=by
     cases hc:sg.toList with
     | nil=>exact absurd hc h0
     | cons c r=>rw [hc] at hw;exact isW_lt hw
    obtain ⟨j,rfl⟩:∃ j',j=j'+1:=⟨j-1,by omega⟩
    have HSE:Hid (∀ x,part (k2+1)=.error x->R=.error x):=hd_ (fun x hx=>by rw [HR.out,chainP,if_pos hw,hx])
    have HSO:Hid (∀ x k',part (k2+1)=.ok (x,k')->R=chainP ws op sg.toList part j (⟨op,.empty,0⟩::(out++x)) k'):=hd_ (fun x k' hx=>by rw [HR.out,chainP,if_pos hw,hx])
    have HQ:=hd_ (fun w' h=>HPART.out (k2+1) w' h (by omega) hlt)
    have hgb:=HGO.out (k2+1) hlt
    unfold isW at hw
    generalize wdAt ws k2=s at *
    go_upto_region 4 with (go_at_call 80;refine HPK.out.mono ?_;rintro e w3 ⟨rfl,hB⟩;have hs3:=HM.out.past hB;obtain ⟨-,-,q2,f2⟩:=hs3.cells;have HM:=hd_ hs3;have HG:=hd_ (grown_below HG.out hB);have HN:=hd_ (HN.out.past hB);have hsz:=Nat.le_trans hsz hB.size;clear hB hs3)
    refine ps_named (fun w4=>PsSt g W cw ws P cp ps (k2+1) w4/\NdF w.heap.size w4 A2 out/\w.grownBy w4 (some g)) ⟨HM.out.set (k2+1) (by go_num),HN.out.grow (ps_grown _ _ _ _) (fun k e=>by cases e;exact hgl),grown_trans HG.out (ps_grown _ _ _ _)⟩ ?_
    rintro w4 ⟨hs4,hn4,hG4⟩
    have h4:w.heap.size<=w4.heap.size:=hG4.size
    have H0:=hd_ (own_litP (w:=w4) (base:=w4.heap.size) (e:=61) (size:=3) (g:=w4.heap.size) (n:=1) #[.int .i64 op,.string .empty,.int .i64 0] rfl (Nat.le_refl _) (by simp [maxLen]) (by simp))
    have HA:=hd_ (hn4.1.1.alloc (.cells #[.int .i64 op,.string .empty,.int .i64 0] 61))
    have HT:Hid (∀ z ∈ out,z.text.size<=maxLen):=hd_ hn4.1.2.2
    have HM:=hd_ hs4
    have HG:=hd_ hG4
    clear HN hs4 hn4 hG4 HPK hsz
    cases hp:part (k2+1) with
    | error x =>
     have hst:=HSE.out x hp
     have HQ':Hid (∀ w',PsSt g W cw ws P cp ps (k2+1) w'->Calls Tryz.prog 218 #[.pointer (some ⟨g,0,none⟩)] w' (PsBad g ps x w')):=hd_ (fun w' h=>by have:=HQ.out w' h;rw [hp] at this;exact this)
     have HST:=hd_ hst
     clear hp hst HQ hgb HSE HSO
     go_wp2_with (first
      | (at_builtin;refine wpList_app _ rfl (.tmp 25) (.tmp 26) _ rfl w4.heap.size 61 i0 _ 3 32 Tryz.underlying59 hi0 hz0 hz1 hz2 rfl (by omega) _ 1 _ rfl H0.out _ A2 out.length c2 _ rfl HA.out (nd_one out) (by simp only [maxLen];omega) (by omega) (by simp) ?_;intro v7 w7 hown7 hg7 hat7;clear hat7;have hB7:Below w4.heap.size w4 w7:=below_app ((Below.refl _ _).alloc (Nat.le_refl _) _) H0.out hg7 (by simp) (Nat.le_refl _);obtain ⟨A7,c7,hv7⟩:=own_slice hown7;subst hv7;have HM:=hd_ (HM.out.past hB7);have HG:=hd_ (grown_below HG.out hB7);clear hown7 hg7 hB7)
      | (go_at_call 218;refine (HQ'.out _ HM.out).mono ?_;rintro e w8 ⟨rfl,hG8⟩;have HG:=hd_ (grown_trans HG.out hG8);clear hG8))
     refine ⟨rfl, ?_⟩
     rw [HST.out]
     exact ⟨rfl,HG.out⟩
    | ok r =>
     obtain ⟨x,k3⟩:=r
     obtain ⟨b1,b2,b3,b4⟩:=hgb.1 x k3 hp
     have hst:=HSO.out x k3 hp
     have HQ':Hid (∀ w',PsSt g W cw ws P cp ps (k2+1) w'->Calls Tryz.prog 218 #[.pointer (some ⟨g,0,none⟩)] w' (PsTo g W cw ws P cp ps (.ok (x,k3)) w')):=hd_ (fun w' h=>by have:=HQ.out w' h;rw [hp] at this;exact this)
     have HST:=hd_ hst
     clear hp hst HQ hgb HSE HSO
     go_wp2_with (first
      | (at_builtin;(fail_if_success have z:=T0);refine wpList_app _ rfl (.tmp 25) (.tmp 26) _ rfl w4.heap.size 61 i0 _ 3 32 Tryz.underlying59 hi0 hz0 hz1 hz2 rfl (by omega) _ 1 _ rfl H0.out _ A2 out.length c2 _ rfl HA.out (nd_one out) (by simp only [maxLen];omega) (by omega) (by simp) ?_;intro v7 w7 hown7 hg7 hat7;clear hat7;have hB7:Below w4.heap.size w4 w7:=below_app ((Below.refl _ _).alloc (Nat.le_refl _) _) H0.out hg7 (by simp) (Nat.le_refl _);obtain ⟨A7,c7,hv7⟩:=own_slice hown7;subst hv7;have HM:=hd_ (HM.out.past hB7);have HG:=hd_ (grown_below HG.out hB7);have h7:=hB7.size;have H7:=hd_ hown7;clear hown7 hg7 hB7;have T0:=hd_ True.intro)
      | (go_at_call 218;refine (HQ'.out _ HM.out).mono ?_;rintro e w8 ⟨A8,c8,rfl,hn8,hs8,hG8⟩;have HG:=hd_ (grown_trans HG.out hG8);have HM:=hd_ hs8;have HX:=hd_ hn8;have H7:=hd_ (own_past H7.out hG8 (Nat.lt_of_lt_of_le hgl h4));have h8:=hG8.size;clear hn8 hs8 hG8)
      | (at_builtin;have z:=T0;clear z;refine wpList_app _ rfl (.tmp 27) (.tmp 29) _ rfl w4.heap.size 61 i0 _ 3 32 Tryz.underlying59 hi0 hz0 hz1 hz2 rfl (by omega) _ (1+out.length) _ rfl H7.out _ A8 x.length c8 _ rfl HX.out.1.1 (nd_one x) (by simp only [maxLen];omega) (by omega) (by omega) ?_;intro v9 w9 hown9 hg9 hat9;clear hat9;have hB9:Below w4.heap.size w8 w9:=below_app (Below.refl _ _) H7.out hg9 (by omega) (Nat.le_refl _);obtain ⟨A9,c9,hv9⟩:=own_slice hown9;subst hv9;have HM:=hd_ (HM.out.under hB9 (by omega));have HG:=hd_ (grown_under HG.out hB9 h4);have H9:=hd_ hown9;have h9:=hB9.size;clear hown9 hg9 hB9))
     exact rq62
theorem chain_mul {g cw cp:Nat} {W P:Option Addr} {ws:List ByteArray} {ps:List Nat} (part:Nat->PrR) (hgo:Goes ws part) (op:Int) (sg:ByteArray) (h0:sg.toList≠[]) (k:Nat)
  (HPART:Hid (∀ (k':Nat) (w:World),PsSt g W cw ws P cp ps k' w->k<=k'->k'<=ws.length->Calls Tryz.prog 186 #[.pointer (some ⟨g,0,none⟩)] w (PsTo g W cw ws P cp ps (part k') w)))
  (w:World) (hs:PsSt g W cw ws P cp ps k w) (hk:k<=ws.length) :
  Calls Tryz.prog 185 #[.pointer (some ⟨g,0,none⟩),.int .i64 op,.string sg,.func (.func 186) #[.pointer (some ⟨g,0,none⟩)] #[]] w (PsTo g W cw ws P cp ps (chainS ws op sg.toList part k) w):=by
 obtain ⟨R,hR⟩:∃ R,R=chainS ws op sg.toList part k:=⟨_,rfl⟩
 rw [← hR]
 unfold chainS at hR
 have H1:=HPART.out k w hs (Nat.le_refl _) hk
 obtain ⟨i0,hi0,hz0,hz1,hz2⟩:=info_parts tree_info
 have hf:=hs.few
 have hgl:=hs.lt
 cases hp:part k with
 | error x =>
  rw [hp] at H1 hR
  subst hR
  have H1:=hd_ H1
  clear hs hp hi0 hz0 hz1 hz2
  go_enter Tryz.func185,Tryz.ntmps185
  go_wp2_with (go_at_call 186;refine H1.out.mono ?_;rintro e w1 ⟨rfl,hG1⟩;have HG:=hd_ hG1;clear hG1)
  exact ⟨rfl,rfl,HG.out⟩
 | ok r =>
  obtain ⟨d0,k1⟩:=r
  rw [hp] at H1 hR
  simp only at hR
  obtain ⟨g1,g2,g3,g4⟩:=(hgo k hk).1 d0 k1 hp
  have H1:=hd_ H1
  have HGO:=hd_ hgo
  have HR:=hd_ hR
  clear hs hp hgo hR
  go_enter Tryz.func185,Tryz.ntmps185
  go_wp2_with (go_at_call 186;refine H1.out.mono ?_;rintro e w1 ⟨A1,c1,rfl,hn1,hs1,hG1⟩;have HN:=hd_ hn1;have HM:=hd_ hs1;have HG:=hd_ hG1;clear hn1 hs1 hG1)
  go_loopw [9] (fun v wr=>∃ (out:List Nd) (k2 j:Nat) (A2:Option Addr) (c2:Nat),v=.slice A2 out.length c2/\k<=k2/\k2<=ws.length/\ws.length<=k2+j/\out.length+k<=k2/\w.heap.size<=wr.heap.size/\Hid (NdF w.heap.size wr A2 out)/\Hid (PsSt g W cw ws P cp ps k2 wr)/\Hid (w.grownBy wr (some g))/\Hid (R=chainP ws op sg.toList part j out k2)) (fun v _=>60001-vLen v)
  case atStart=>exact ⟨d0,k1,ws.length,A1,c1,rfl,by omega,g2,by omega,g3,HG.out.size,HN,HM,HG,HR⟩
  case round =>
   obtain ⟨out,k2,j,A2,c2,rfl,hk2,hl2,hj,ho,hsz,HN,HM,HG,HR⟩:=hrel
   have HPK:=hd_ (peek_any wr HM.out hl2)
   cases hw:isW ws k2 sg.toList with
   | false =>
    exact rq63
   | true =>
    have hlt:k2<ws.length:=by
     cases hc:sg.toList with
     | nil=>exact absurd hc h0
     | cons c r=>rw [hc] at hw;exact isW_lt hw
    obtain ⟨j,rfl⟩:∃ j',j=j'+1:=⟨j-1,by omega⟩
    have HSE:Hid (∀ x,part (k2+1)=.error x->R=.error x):=hd_ (fun x hx=>by rw [HR.out,chainP,if_pos hw,hx])
    have HSO:Hid (∀ x k',part (k2+1)=.ok (x,k')->R=chainP ws op sg.toList part j (⟨op,.empty,0⟩::(out++x)) k'):=hd_ (fun x k' hx=>by rw [HR.out,chainP,if_pos hw,hx])
    have HQ:=hd_ (fun w' h=>HPART.out (k2+1) w' h (by omega) hlt)
    have hgb:=HGO.out (k2+1) hlt
    unfold isW at hw
    generalize wdAt ws k2=s at *
    go_upto_region 4 with (go_at_call 80;refine HPK.out.mono ?_;rintro e w3 ⟨rfl,hB⟩;have hs3:=HM.out.past hB;obtain ⟨-,-,q2,f2⟩:=hs3.cells;have HM:=hd_ hs3;have HG:=hd_ (grown_below HG.out hB);have HN:=hd_ (HN.out.past hB);have hsz:=Nat.le_trans hsz hB.size;clear hB hs3)
    refine ps_named (fun w4=>PsSt g W cw ws P cp ps (k2+1) w4/\NdF w.heap.size w4 A2 out/\w.grownBy w4 (some g)) ⟨HM.out.set (k2+1) (by go_num),HN.out.grow (ps_grown _ _ _ _) (fun k e=>by cases e;exact hgl),grown_trans HG.out (ps_grown _ _ _ _)⟩ ?_
    rintro w4 ⟨hs4,hn4,hG4⟩
    have h4:w.heap.size<=w4.heap.size:=hG4.size
    have H0:=hd_ (own_litP (w:=w4) (base:=w4.heap.size) (e:=61) (size:=3) (g:=w4.heap.size) (n:=1) #[.int .i64 op,.string .empty,.int .i64 0] rfl (Nat.le_refl _) (by simp [maxLen]) (by simp))
    have HA:=hd_ (hn4.1.1.alloc (.cells #[.int .i64 op,.string .empty,.int .i64 0] 61))
    have HT:Hid (∀ z ∈ out,z.text.size<=maxLen):=hd_ hn4.1.2.2
    have HM:=hd_ hs4
    have HG:=hd_ hG4
    clear HN hs4 hn4 hG4 HPK hsz
    cases hp:part (k2+1) with
    | error x =>
     have hst:=HSE.out x hp
     have HQ':Hid (∀ w',PsSt g W cw ws P cp ps (k2+1) w'->Calls Tryz.prog 186 #[.pointer (some ⟨g,0,none⟩)] w' (PsBad g ps x w')):=hd_ (fun w' h=>by have:=HQ.out w' h;rw [hp] at this;exact this)
     have HST:=hd_ hst
     clear hp hst HQ hgb HSE HSO
     go_wp2_with (first
      | (at_builtin;refine wpList_app _ rfl (.tmp 25) (.tmp 26) _ rfl w4.heap.size 61 i0 _ 3 32 Tryz.underlying59 hi0 hz0 hz1 hz2 rfl (by omega) _ 1 _ rfl H0.out _ A2 out.length c2 _ rfl HA.out (nd_one out) (by simp only [maxLen];omega) (by omega) (by simp) ?_;intro v7 w7 hown7 hg7 hat7;clear hat7;have hB7:Below w4.heap.size w4 w7:=below_app ((Below.refl _ _).alloc (Nat.le_refl _) _) H0.out hg7 (by simp) (Nat.le_refl _);obtain ⟨A7,c7,hv7⟩:=own_slice hown7;subst hv7;have HM:=hd_ (HM.out.past hB7);have HG:=hd_ (grown_below HG.out hB7);clear hown7 hg7 hB7)
      | (go_at_call 186;refine (HQ'.out _ HM.out).mono ?_;rintro e w8 ⟨rfl,hG8⟩;have HG:=hd_ (grown_trans HG.out hG8);clear hG8))
     refine ⟨rfl, ?_⟩
     rw [HST.out]
     exact ⟨rfl,HG.out⟩
    | ok r =>
     obtain ⟨x,k3⟩:=r
     obtain ⟨b1,b2,b3,b4⟩:=hgb.1 x k3 hp
     have hst:=HSO.out x k3 hp
     have HQ':Hid (∀ w',PsSt g W cw ws P cp ps (k2+1) w'->Calls Tryz.prog 186 #[.pointer (some ⟨g,0,none⟩)] w' (PsTo g W cw ws P cp ps (.ok (x,k3)) w')):=hd_ (fun w' h=>by have:=HQ.out w' h;rw [hp] at this;exact this)
     have HST:=hd_ hst
     clear hp hst HQ hgb HSE HSO
     go_wp2_with (first
      | (at_builtin;(fail_if_success have z:=T0);refine wpList_app _ rfl (.tmp 25) (.tmp 26) _ rfl w4.heap.size 61 i0 _ 3 32 Tryz.underlying59 hi0 hz0 hz1 hz2 rfl (by omega) _ 1 _ rfl H0.out _ A2 out.length c2 _ rfl HA.out (nd_one out) (by simp only [maxLen];omega) (by omega) (by simp) ?_;intro v7 w7 hown7 hg7 hat7;clear hat7;have hB7:Below w4.heap.size w4 w7:=below_app ((Below.refl _ _).alloc (Nat.le_refl _) _) H0.out hg7 (by simp) (Nat.le_refl _);obtain ⟨A7,c7,hv7⟩:=own_slice hown7;subst hv7;have HM:=hd_ (HM.out.past hB7);have HG:=hd_ (grown_below HG.out hB7);have h7:=hB7.size;have H7:=hd_ hown7;clear hown7 hg7 hB7;have T0:=hd_ True.intro)
      | (go_at_call 186;refine (HQ'.out _ HM.out).mono ?_;rintro e w8 ⟨A8,c8,rfl,hn8,hs8,hG8⟩;have HG:=hd_ (grown_trans HG.out hG8);have HM:=hd_ hs8;have HX:=hd_ hn8;have H7:=hd_ (own_past H7.out hG8 (Nat.lt_of_lt_of_le hgl h4));have h8:=hG8.size;clear hn8 hs8 hG8)
      | (at_builtin;have z:=T0;clear z;refine wpList_app _ rfl (.tmp 27) (.tmp 29) _ rfl w4.heap.size 61 i0 _ 3 32 Tryz.underlying59 hi0 hz0 hz1 hz2 rfl (by omega) _ (1+out.length) _ rfl H7.out _ A8 x.length c8 _ rfl HX.out.1.1 (nd_one x) (by simp only [maxLen];omega) (by omega) (by omega) ?_;intro v9 w9 hown9 hg9 hat9;clear hat9;have hB9:Below w4.heap.size w8 w9:=below_app (Below.refl _ _) H7.out hg9 (by omega) (Nat.le_refl _);obtain ⟨A9,c9,hv9⟩:=own_slice hown9;subst hv9;have HM:=hd_ (HM.out.under hB9 (by omega));have HG:=hd_ (grown_under HG.out hB9 h4);have H9:=hd_ hown9;have h9:=hB9.size;clear hown9 hg9 hB9))
     exact rq62
theorem rq69 {P:Prop} (h:P:=by
 go_wp2_with (go_at_call 185;refine HC.out.mono ?_;rintro e w1 ⟨A1,c1,rfl,hH⟩;have HH:=hd_ hH;clear hH)
 go_ret
 exact ⟨A1,c1,rfl,HH.out⟩):P:=h
theorem rq70 {P:Prop} (h:P:=by
 go_wp2_with (go_at_call 185;refine HC.out.mono ?_;rintro e w1 ⟨rfl,hG1⟩;have HG:=hd_ hG1;clear hG1)
 exact ⟨rfl,rfl,HG.out⟩):P:=h
theorem mul_any {g cw cp:Nat} {W P:Option Addr} {ws:List ByteArray} {ps:List Nat} (part:Nat->PrR) (hgo:Goes ws part) (k:Nat)
  (HPART:Hid (∀ (k':Nat) (w:World),PsSt g W cw ws P cp ps k' w->k<=k'->k'<=ws.length->Calls Tryz.prog 218 #[.pointer (some ⟨g,0,none⟩)] w (PsTo g W cw ws P cp ps (part k') w)))
  (w:World) (hs:PsSt g W cw ws P cp ps k w) (hk:k<=ws.length) :
  Calls Tryz.prog 186 #[.pointer (some ⟨g,0,none⟩)] w (PsTo g W cw ws P cp ps (chainS ws 6 [42] part k) w):=by
 have hmf:∀ (fn:Fn) (first cap:Array Value) (w:World),(Instr.makeFunc fn first cap).run Tryz.prog w=.ok (.func fn first cap) w:=fun _ _ _ _=>rfl
 have hsg:(⟨#[42]⟩:ByteArray).toList=[42]:=by decide +kernel
 have HC:=chain_one part hgo 6 ⟨#[42]⟩ (by rw [hsg];simp) k HPART w hs hk
 rw [hsg] at HC
 generalize chainS ws 6 [42] part k=R at *
 have HC:=hd_ HC
 clear hs hgo HPART hk hsg
 cases R with
 | error x =>
  go_enter Tryz.func186,Tryz.ntmps186
  exact rq70
 | ok r =>
  obtain ⟨d,k1⟩:=r
  go_enter Tryz.func186,Tryz.ntmps186
  exact rq69
theorem sum_any {g cw cp:Nat} {W P:Option Addr} {ws:List ByteArray} {ps:List Nat} (part:Nat->PrR) (hgo:Goes ws part) (k:Nat)
  (HPART:Hid (∀ (k':Nat) (w:World),PsSt g W cw ws P cp ps k' w->k<=k'->k'<=ws.length->Calls Tryz.prog 186 #[.pointer (some ⟨g,0,none⟩)] w (PsTo g W cw ws P cp ps (part k') w)))
  (w:World) (hs:PsSt g W cw ws P cp ps k w) (hk:k<=ws.length) :
  Calls Tryz.prog 138 #[.pointer (some ⟨g,0,none⟩)] w (PsTo g W cw ws P cp ps (chainS ws 5 [43] part k) w):=by
 have hmf:∀ (fn:Fn) (first cap:Array Value) (w:World),(Instr.makeFunc fn first cap).run Tryz.prog w=.ok (.func fn first cap) w:=fun _ _ _ _=>rfl
 have hsg:(⟨#[43]⟩:ByteArray).toList=[43]:=by decide +kernel
 have HC:=chain_mul part hgo 5 ⟨#[43]⟩ (by rw [hsg];simp) k HPART w hs hk
 rw [hsg] at HC
 generalize chainS ws 5 [43] part k=R at *
 have HC:=hd_ HC
 clear hs hgo HPART hk hsg
 cases R with
 | error x =>
  go_enter Tryz.func138,Tryz.ntmps138
  exact rq70
 | ok r =>
  obtain ⟨d,k1⟩:=r
  go_enter Tryz.func138,Tryz.ntmps138
  exact rq69
def PsMany (g:Nat) (W:Option Addr) (cw:Nat) (ws:List ByteArray) (P:Option Addr) (cp:Nat) (ps:List Nat) (r:Except Nat (Nat × List Nd × Nat)) (w:World) (e:Ending) (w':World):Prop :=
 match r with
 | .ok (n,d,k)=>∃ A c,e=.returned (.tuple #[.int .i64 (n:Nat),.slice A d.length c])/\NdF w.heap.size w' A d/\PsSt g W cw ws P cp ps k w'/\w.grownBy w' (some g)
 | .error x=>PsBad g ps x w e w'
theorem manyP_end {ws:List ByteArray} {ed:List UInt8} {sum:Nat->PrR} {j n k:Nat} {out:List Nd} (h:isW ws k ed=true):manyP ws ed sum (j+1) n out k=.ok (n,out,k+1):=by rw [manyP,if_pos h]
theorem manyP_stop {ws:List ByteArray} {ed:List UInt8} {sum:Nat->PrR} {j n k:Nat} {out:List Nd} (h:isW ws k ed=false) (hn:0<n) (hc:isW ws k [44]=false):manyP ws ed sum (j+1) n out k=.error k:=by
 rw [manyP,if_neg (by rw [h];decide),if_pos ⟨hn,hc⟩]
theorem manyP_bad {ws:List ByteArray} {ed:List UInt8} {sum:Nat->PrR} {j n k q x:Nat} {out:List Nd} (h:isW ws k ed=false) (hc:¬ (0<n/\isW ws k [44]=false)) (hq:(if 0<n then k+1 else k)=q) (hx:sum q=.error x):manyP ws ed sum (j+1) n out k=.error x:=by
 rw [manyP,if_neg (by rw [h];decide),if_neg hc,hq,hx]
theorem manyP_more {ws:List ByteArray} {ed:List UInt8} {sum:Nat->PrR} {j n k q k':Nat} {out x:List Nd} (h:isW ws k ed=false) (hc:¬ (0<n/\isW ws k [44]=false)) (hq:(if 0<n then k+1 else k)=q) (hx:sum q=.ok (x,k')):manyP ws ed sum (j+1) n out k=manyP ws ed sum j (n+1) (out++x) k':=by
 rw [manyP,if_neg (by rw [h];decide),if_neg hc,hq,hx]
theorem pmany_any {g cw cp:Nat} {W P:Option Addr} {ws:List ByteArray} {ps:List Nat} (s:Nat->PrR) (hgo:Goes ws s) (ed:ByteArray) (h0:ed.toList≠[]) (k:Nat)
  (HSUM:Hid (∀ (k':Nat) (w:World),PsSt g W cw ws P cp ps k' w->k<=k'->k'<=ws.length->Calls Tryz.prog 138 #[.pointer (some ⟨g,0,none⟩)] w (PsTo g W cw ws P cp ps (s k') w)))
  (w:World) (hs:PsSt g W cw ws P cp ps k w) (hk:k<=ws.length) :
  Calls Tryz.prog 236 #[.pointer (some ⟨g,0,none⟩),.string ed] w (PsMany g W cw ws P cp ps (manyP ws ed.toList s (ws.length+1) 0 [] k) w):=by
 obtain ⟨R,hR⟩:∃ R,R=manyP ws ed.toList s (ws.length+1) 0 [] k:=⟨_,rfl⟩
 rw [← hR]
 obtain ⟨i0,hi0,hz0,hz1,hz2⟩:=info_parts tree_info
 have hf:=hs.few
 have hgl:=hs.lt
 have h44:(⟨#[44]⟩:ByteArray).toList=[44]:=by decide +kernel
 have HM:=hd_ hs
 have HGO:=hd_ hgo
 have HR:=hd_ hR
 have H44:=hd_ h44
 have HPK:=hd_ (fun k' w' (h:PsSt g W cw ws P cp ps k' w') hk=>peek_any w' h hk)
 clear hs hgo hR h44
 go_enter Tryz.func236,Tryz.ntmps236
 go_wp2
 go_loopw [6,7] (fun v i wr=>∃ (out:List Nd) (k2 j n:Nat) (A2:Option Addr) (c2:Nat),v=.slice A2 out.length c2/\i=.int .i64 (n:Nat)/\k<=k2/\k2<=ws.length/\ws.length+1<=k2+j/\out.length+k<=k2/\n<=out.length/\w.heap.size<=wr.heap.size/\Hid (wr.ownsRow w.heap.size 61 3 (.slice A2 out.length c2) out.length (out.flatMap ndCells))/\Hid (∀ z ∈ out,z.text.size<=maxLen)/\Hid (PsSt g W cw ws P cp ps k2 wr)/\Hid (w.grownBy wr (some g))/\Hid (R=manyP ws ed.toList s j n out k2)) (fun _ i _=>60001-(intOf i).toNat)
 case atStart=>exact ⟨[],k,ws.length+1,0,none,0,rfl,rfl,Nat.le_refl _,hk,by omega,by simp,by simp,Nat.le_refl _,hd_ (World.ownsRow_nil _ _ _ _),hd_ (by simp),HM,hd_ (World.grownBy.refl _ _),HR⟩
 case round =>
  obtain ⟨out,k2,j,n,A2,c2,rfl,rfl,hk2,hl2,hj,ho,hno,hsz,HN,HT,HM,HG,HR⟩:=hrel
  have HP:=hd_ (HPK.out k2 wr HM.out hl2)
  obtain ⟨j,rfl⟩:∃ j',j=j'+1:=⟨j-1,by omega⟩
  cases hw:isW ws k2 ed.toList with
  | true =>
   have HRES:=hd_ (HR.out.trans (manyP_end hw))
   have hlt:k2<ws.length:=by
    cases hc:ed.toList with
    | nil=>exact absurd hc h0
    | cons c r=>rw [hc] at hw;exact isW_lt hw
   unfold isW at hw
   generalize wdAt ws k2=S at *
   go_wp2_with (go_at_call 80;refine HP.out.mono ?_;rintro e w3 ⟨rfl,hB⟩;have hs3:=HM.out.past hB;obtain ⟨-,-,q2,f2⟩:=hs3.cells;have HM:=hd_ hs3;have HG:=hd_ (grown_below HG.out hB);have HN:=hd_ (own_below HN.out hB);clear hB hs3)
   go_ret2
   rw [HRES.out]
   refine ⟨A2,c2,rfl, ?_,HM.out.set (k2+1) (by go_num),grown_trans HG.out (ps_grown _ _ _ _)⟩
   exact (NdF.ownT (n:=out.length) (c:=c2) HN.out rfl (by simp only [maxLen];omega) HT.out).grow (ps_grown _ _ _ _) (fun k e=>by cases e;exact hgl)
  | false =>
   have hlen1:∀ x:List Nd,(out++x).length=out.length+x.length:=fun x=>by simp
   rcases Nat.eq_zero_or_pos n with hn0|hn0
   ·subst hn0
    have hcz:¬ (0<0/\isW ws k2 [44]=false):=by simp
    have HQ:=hd_ (fun w' h=>HSUM.out k2 w' h (by omega) hl2)
    have hgb:=HGO.out k2 hl2
    cases hp:s k2 with
    | error x =>
     have HRES:=hd_ (HR.out.trans (manyP_bad (q:=k2) hw hcz (by simp) hp))
     have HQ':Hid (∀ w',PsSt g W cw ws P cp ps k2 w'->Calls Tryz.prog 138 #[.pointer (some ⟨g,0,none⟩)] w' (PsBad g ps x w')):=hd_ (fun w' h=>by have:=HQ.out w' h;rw [hp] at this;exact this)
     unfold isW at hw
     generalize wdAt ws k2=S at *
     clear hp HQ hgb hcz
     go_wp2_with (first
      | (go_at_call 80;refine HP.out.mono ?_;rintro e w3 ⟨rfl,hB⟩;have HM:=hd_ (HM.out.past hB);have HG:=hd_ (grown_below HG.out hB);have HN:=hd_ (own_below HN.out hB);have hsz:=Nat.le_trans hsz hB.size;clear hB)
      | (go_at_call 138;refine (HQ'.out _ HM.out).mono ?_;rintro e w8 ⟨rfl,hG8⟩;have HG:=hd_ (grown_trans HG.out hG8);clear hG8))
     refine ⟨rfl, ?_⟩
     rw [HRES.out]
     exact ⟨rfl,HG.out⟩
    | ok r =>
     obtain ⟨x,k3⟩:=r
     obtain ⟨b1,b2,b3,b4⟩:=hgb.1 x k3 hp
     have HRES:=hd_ (HR.out.trans (manyP_more (q:=k2) hw hcz (by simp) hp))
     have HQ':Hid (∀ w',PsSt g W cw ws P cp ps k2 w'->Calls Tryz.prog 138 #[.pointer (some ⟨g,0,none⟩)] w' (PsTo g W cw ws P cp ps (.ok (x,k3)) w')):=hd_ (fun w' h=>by have:=HQ.out w' h;rw [hp] at this;exact this)
     unfold isW at hw
     generalize wdAt ws k2=S at *
     clear hp HQ hgb hcz
     go_wp2_with (first
      | (go_at_call 80;refine HP.out.mono ?_;rintro e w3 ⟨rfl,hB⟩;have HM:=hd_ (HM.out.past hB);have HG:=hd_ (grown_below HG.out hB);have HN:=hd_ (own_below HN.out hB);have hsz:=Nat.le_trans hsz hB.size;clear hB)
      | (go_at_call 138;refine (HQ'.out _ HM.out).mono ?_;rintro e w8 ⟨A8,c8,rfl,hn8,hs8,hG8⟩;have HM:=hd_ hs8;have HX:=hd_ hn8;have HG:=hd_ (grown_trans HG.out hG8);have HN:=hd_ (own_past HN.out hG8 hgl);have hsz:=Nat.le_trans hsz hG8.size;clear hn8 hs8 hG8)
      | (at_builtin;refine wpList_app _ rfl (.tmp 16) (.tmp 18) _ rfl w.heap.size 61 i0 _ 3 32 Tryz.underlying59 hi0 hz0 hz1 hz2 rfl (by omega) _ out.length _ rfl HN.out _ A8 x.length c8 _ rfl HX.out.1.1 (nd_one x) (by simp only [maxLen];omega) (by omega) (by omega) ?_;intro v9 w9 hown9 hg9 hat9;clear hat9;have hB9:Below w.heap.size w8 w9:=below_app (Below.refl _ _) HN.out hg9 (by omega) (Nat.le_refl _);obtain ⟨A9,c9,hv9⟩:=own_slice hown9;subst hv9;have HM:=hd_ (HM.out.under hB9 hgl);have HG:=hd_ (grown_under HG.out hB9 (Nat.le_refl _));have H9:=hd_ hown9;have hsz:=Nat.le_trans hsz hB9.size;clear hown9 hg9 hB9))
     go_roundw
     case measure=>exact mea_
     case rel =>
      refine ⟨out++x,k3,j,0+1,A9,c9,by rw [hlen1],by first|go_num|rfl,by omega,b2,by omega,by rw [hlen1];omega,by rw [hlen1];omega,hsz,hd_ (by rw [hlen1,List.flatMap_append];exact H9.out),hd_ ?_,HM,HG,HRES⟩
      intro z hz
      rcases List.mem_append.1 hz with hz|hz
      ·exact HT.out z hz
      ·exact HX.out.1.2.2 z hz
   ·have q1:decide ((n:Int)>0)=true:=decide_eq_true (by omega)
    cases hcm:isW ws k2 [44] with
    | false =>
     have HRES:=hd_ (HR.out.trans (manyP_stop hw hn0 hcm))
     have HMU:Hid (∀ w',PsSt g W cw ws P cp ps k2 w'->Calls Tryz.prog 137 #[.pointer (some ⟨g,0,none⟩),.string ⟨#[44]⟩] w' (PsBad g ps k2 w')):=hd_ (fun w' h=>must_bad _ w' h hl2 (by rw [H44.out];exact hcm))
     unfold isW at hw
     generalize wdAt ws k2=S at *
     clear hcm
     go_wp2_with (first
      | (go_at_call 80;refine HP.out.mono ?_;rintro e w3 ⟨rfl,hB⟩;have HM:=hd_ (HM.out.past hB);have HG:=hd_ (grown_below HG.out hB);clear hB)
      | (go_at_call 137;refine (HMU.out _ HM.out).mono ?_;rintro e w8 ⟨rfl,hG8⟩;have HG:=hd_ (grown_trans HG.out hG8);clear hG8))
     refine ⟨rfl, ?_⟩
     rw [HRES.out]
     exact ⟨rfl,HG.out⟩
    | true =>
     have hlt:k2<ws.length:=isW_lt hcm
     have hcz:¬ (0<n/\isW ws k2 [44]=false):=by simp [hcm]
     have HMU:Hid (∀ w',PsSt g W cw ws P cp ps k2 w'->Calls Tryz.prog 137 #[.pointer (some ⟨g,0,none⟩),.string ⟨#[44]⟩] w' (PsOk g W cw ws P cp ps (k2+1) (.tuple #[]) w')):=hd_ (fun w' h=>must_ok _ w' h hl2 (by rw [H44.out];exact hcm))
     have HQ:=hd_ (fun w' h=>HSUM.out (k2+1) w' h (by omega) hlt)
     have hgb:=HGO.out (k2+1) hlt
     cases hp:s (k2+1) with
     | error x =>
      have HRES:=hd_ (HR.out.trans (manyP_bad (q:=k2+1) hw hcz (by simp [hn0]) hp))
      have HQ':Hid (∀ w',PsSt g W cw ws P cp ps (k2+1) w'->Calls Tryz.prog 138 #[.pointer (some ⟨g,0,none⟩)] w' (PsBad g ps x w')):=hd_ (fun w' h=>by have:=HQ.out w' h;rw [hp] at this;exact this)
      unfold isW at hw
      generalize wdAt ws k2=S at *
      clear hp HQ hgb hcz hcm
      go_wp2_with (first
       | (go_at_call 80;refine HP.out.mono ?_;rintro e w3 ⟨rfl,hB⟩;have HM:=hd_ (HM.out.past hB);have HG:=hd_ (grown_below HG.out hB);have HN:=hd_ (own_below HN.out hB);have hsz:=Nat.le_trans hsz hB.size;clear hB)
       | (go_at_call 137;refine (HMU.out _ HM.out).mono ?_;rintro e w4 ⟨rfl,hs4,hG4⟩;have HM:=hd_ hs4;have HG:=hd_ (grown_trans HG.out hG4);have HN:=hd_ (own_past HN.out hG4 hgl);have hsz:=Nat.le_trans hsz hG4.size;clear hs4 hG4)
       | (go_at_call 138;refine (HQ'.out _ HM.out).mono ?_;rintro e w8 ⟨rfl,hG8⟩;have HG:=hd_ (grown_trans HG.out hG8);clear hG8))
      refine ⟨rfl, ?_⟩
      rw [HRES.out]
      exact ⟨rfl,HG.out⟩
     | ok r =>
      obtain ⟨x,k3⟩:=r
      obtain ⟨b1,b2,b3,b4⟩:=hgb.1 x k3 hp
      have HRES:=hd_ (HR.out.trans (manyP_more (q:=k2+1) hw hcz (by simp [hn0]) hp))
      have HQ':Hid (∀ w',PsSt g W cw ws P cp ps (k2+1) w'->Calls Tryz.prog 138 #[.pointer (some ⟨g,0,none⟩)] w' (PsTo g W cw ws P cp ps (.ok (x,k3)) w')):=hd_ (fun w' h=>by have:=HQ.out w' h;rw [hp] at this;exact this)
      unfold isW at hw
      generalize wdAt ws k2=S at *
      clear hp HQ hgb hcz hcm
      go_wp2_with (first
       | (go_at_call 80;refine HP.out.mono ?_;rintro e w3 ⟨rfl,hB⟩;have HM:=hd_ (HM.out.past hB);have HG:=hd_ (grown_below HG.out hB);have HN:=hd_ (own_below HN.out hB);have hsz:=Nat.le_trans hsz hB.size;clear hB)
       | (go_at_call 137;refine (HMU.out _ HM.out).mono ?_;rintro e w4 ⟨rfl,hs4,hG4⟩;have HM:=hd_ hs4;have HG:=hd_ (grown_trans HG.out hG4);have HN:=hd_ (own_past HN.out hG4 hgl);have hsz:=Nat.le_trans hsz hG4.size;clear hs4 hG4)
       | (go_at_call 138;refine (HQ'.out _ HM.out).mono ?_;rintro e w8 ⟨A8,c8,rfl,hn8,hs8,hG8⟩;have HM:=hd_ hs8;have HX:=hd_ hn8;have HG:=hd_ (grown_trans HG.out hG8);have HN:=hd_ (own_past HN.out hG8 hgl);have hsz:=Nat.le_trans hsz hG8.size;clear hn8 hs8 hG8)
       | (at_builtin;refine wpList_app _ rfl (.tmp 16) (.tmp 18) _ rfl w.heap.size 61 i0 _ 3 32 Tryz.underlying59 hi0 hz0 hz1 hz2 rfl (by omega) _ out.length _ rfl HN.out _ A8 x.length c8 _ rfl HX.out.1.1 (nd_one x) (by simp only [maxLen];omega) (by omega) (by omega) ?_;intro v9 w9 hown9 hg9 hat9;clear hat9;have hB9:Below w.heap.size w8 w9:=below_app (Below.refl _ _) HN.out hg9 (by omega) (Nat.le_refl _);obtain ⟨A9,c9,hv9⟩:=own_slice hown9;subst hv9;have HM:=hd_ (HM.out.under hB9 hgl);have HG:=hd_ (grown_under HG.out hB9 (Nat.le_refl _));have H9:=hd_ hown9;have hsz:=Nat.le_trans hsz hB9.size;clear hown9 hg9 hB9))
      go_roundw
      case measure=>exact mea_
      case rel =>
       refine ⟨out++x,k3,j,n+1,A9,c9,by rw [hlen1],by first|go_num|rfl,by omega,b2,by omega,by rw [hlen1];omega,by rw [hlen1];omega,hsz,hd_ (by rw [hlen1,List.flatMap_append];exact H9.out),hd_ ?_,HM,HG,HRES⟩
       intro z hz
       rcases List.mem_append.1 hz with hz|hz
       ·exact HT.out z hz
       ·exact HX.out.1.2.2 z hz
theorem decFrom_digits:∀ (l:List UInt8) (acc:Nat),l.all digC=true->Lib.decFrom acc l=some (l.foldl (fun n c=>n*10+(c.toNat-48)) acc)
 | [],acc,_=>rfl
 | c::r,acc,h=>by
  simp only [List.all_cons,Bool.and_eq_true] at h
  have hd:Lib.digitVal c=some (c.toNat-48):=by
   have h1:=h.1
   simp [digC] at h1
   rw [Lib.digitVal,if_pos h1]
  rw [Lib.decFrom,hd]
  simp only [List.foldl_cons]
  exact decFrom_digits r _ h.2
theorem fold_int:∀ (l:List UInt8) (acc:Nat),l.all digC=true->((l.foldl (fun n c=>n*10+(c.toNat-48)) acc:Nat):Int)=l.foldl (fun n c=>n*10+((c.toNat:Int)-48)) (acc:Int)
 | [],acc,_=>rfl
 | c::r,acc,h=>by
  simp only [List.all_cons,Bool.and_eq_true] at h
  have h1:=h.1
  simp [digC] at h1
  simp only [List.foldl_cons]
  rw [fold_int r _ h.2]
  congr 1
  omega
theorem atoi_numW {s:ByteArray} (h:s.data.toList.all digC=true) (h0:s.data.toList≠[]):Lib.atoi s.data.toList=some (numW s):=by
 unfold numW
 cases hc:s.data.toList with
 | nil=>exact absurd hc h0
 | cons c r =>
  rw [hc] at h
  have hd:digC c=true:=by simp only [List.all_cons,Bool.and_eq_true] at h;exact h.1
  simp [digC] at hd
  have c45:(c==45)=false:=by
   rw [Bool.eq_false_iff];intro e;have:=eq_of_beq e;subst this;simp at hd
  have c43:(c==43)=false:=by
   rw [Bool.eq_false_iff];intro e;have:=eq_of_beq e;subst this;simp at hd
  rw [Lib.atoi,c45,c43]
  simp only [Bool.false_eq_true,if_false]
  unfold Lib.decNat
  simp only [decFrom_digits _ _ h,List.isEmpty_cons,Bool.false_eq_true,if_false,Option.map_some]
  rw [fold_int _ _ h]
  rfl
theorem patoi_any (s:ByteArray) (w:World) (h:s.data.toList.all digC=true) (h0:s.data.toList≠[]) (h6:s.size<=6):Calls Tryz.prog 118 #[.string s] w (Ret w (.tuple #[.int .i64 (numW s),.nilIface])) :=
 (Tryz.strconv_Atoi s _ (by omega) (atoi_numW h h0) w).mono (by
  rintro e w' ⟨rfl,t,rfl⟩
  exact ⟨rfl,⟨rfl,rfl,rfl,by rw [Lib.bytesWorld_size];omega,fun j hj=>Lib.bytesWorld_at_old _ _ _ j hj⟩⟩)
theorem dig_zero {S:ByteArray} (h:S.data.toList=[]):digW S=false:=by simp [digW,h]
theorem dig_at {S:ByteArray} (h0:0<S.size):digW S=digC S[0]:=by
 obtain ⟨l⟩:=S
 obtain ⟨l⟩:=l
 cases l with
 | nil=>simp [ByteArray.size] at h0
 | cons c r=>rfl
theorem nameF_nil {S:ByteArray} (h:S.data.toList=[]):nameF S=false:=by simp [nameF,ByteArray.toList_eq,h]
theorem rq67 {P:Prop} (h:P:=by
 refine NdF.less (NdF.ownT (n:=n) (c:=c) (by rw [List.flatMap_cons];exact h) (by rw [hn,List.length_cons]) (by simp only [List.length_cons,maxLen];omega) ?_) hlo
 intro z hz
 rcases List.mem_cons.1 hz with rfl|hz
 ·exact hd
 ·exact hx z hz):P:=h
theorem ps_own1 {w w':World} {A:Option Addr} {n c:Nat} {d:Nd} {x:List Nd} {lo:Nat} (h:w'.ownsRow w.heap.size 61 3 (.slice A n c) n ([.int .i64 d.op,.string d.text,.int .i64 d.n]++x.flatMap ndCells)) (hn:n=x.length+1) (hm:x.length<=60000) (hd:d.text.size<=maxLen) (hx:∀ z ∈ x,z.text.size<=maxLen) (hlo:lo<=w.heap.size):NdF lo w' A (d::x):=by
 exact rq67
theorem NdF.lit_ (w:World) (d:Nd) (e:TypeId) (hd:d.text.size<=maxLen):NdF w.heap.size (w.alloc (.cells #[.int .i64 d.op,.string d.text,.int .i64 d.n] e)) (some ⟨w.heap.size,0,none⟩) [d] :=
 ⟨⟨.lit w _ _ 1 rfl,by simp [maxLen],by simpa using hd⟩,fun ad e=>by cases e;exact Nat.le_refl _⟩
theorem rq58 {P:Prop} (h:P:=by
 go_enter Tryz.func218,Tryz.ntmps218
 go_wp2_with (first
  | (go_at_call 80;(fail_if_success have z:=T0);refine HP.out.mono ?_;rintro e w3 ⟨rfl,hB⟩;have hs3:=HS.out.past hB;obtain ⟨-,-,q7,f2⟩:=hs3.cells;have HM:=hd_ hs3;have HG:Hid (w.grownBy w3 (some g)):=hd_ (ps_row _ hB);clear hB hs3;have T0:=hd_ True.intro)
  | (go_at_call 136;refine (HNO.out _ HM.out).mono ?_;rintro e w4 ⟨rfl,hs4,hG4⟩;have HM:=hd_ hs4;have HG:=hd_ (grown_trans HG.out hG4);clear hs4 hG4)
  | (go_at_call 80;(have z:=T0;clear z);refine (HP2.out _ HM.out).mono ?_;rintro e w5 ⟨rfl,hB⟩;have hs3:=HM.out.past hB;obtain ⟨-,-,q7,f2⟩:=hs3.cells;have HM:=hd_ hs3;have HG:=hd_ (grown_below HG.out hB);clear hB hs3)
  | (go_at_call 236;refine (HQ'.out _ (HM.out.set (k+2) (by go_num))).mono ?_;rintro e w8 ⟨A8,c8,rfl,hn8,hs8,hG8⟩;have HM:=hd_ hs8;have HG:=hd_ (grown_trans (grown_trans HG.out (ps_grown _ _ _ _)) hG8);have h8:=HG.out.size;have H0:=hd_ (own_litP (w:=w8) (base:=w8.heap.size) (e:=61) (size:=3) (g:=w8.heap.size) (n:=1) #[.int .i64 3,.string S,.int .i64 (n:Nat)] rfl (Nat.le_refl _) (by simp [maxLen]) (by simp));have HA:=hd_ (hn8.1.1.alloc (.cells #[.int .i64 3,.string S,.int .i64 (n:Nat)] 61));have HT:Hid (∀ z ∈ x,z.text.size<=maxLen):=hd_ hn8.1.2.2;clear hn8 hs8 hG8)
  | (at_builtin;refine wpList_app _ rfl (.tmp 94) (.tmp 95) _ rfl w8.heap.size 61 i0 _ 3 32 Tryz.underlying59 hi0 hz0 hz1 hz2 rfl (by omega) _ 1 _ rfl H0.out _ A8 x.length c8 _ rfl HA.out (nd_one x) (by simp only [maxLen];omega) (by omega) (by simp) ?_;intro v9 w9 hown9 hg9 hat9;clear hat9;have hB9:Below w8.heap.size w8 w9:=below_app ((Below.refl _ _).alloc (Nat.le_refl _) _) H0.out hg9 (by simp) (Nat.le_refl _);obtain ⟨A9,c9,hv9⟩:=own_slice hown9;subst hv9;have HM:=hd_ (HM.out.past hB9);have HG:=hd_ (grown_below HG.out hB9);have H9:=hd_ hown9;clear hown9 hg9 hB9))
 go_ret
 rw [HRES.out]
 exact ⟨A9,c9,by rw [List.length_cons,Nat.add_comm];rfl,ps_own1 (d:=⟨3,S,(n:Nat)⟩) (x:=x) (c:=c9) (n:=1+x.length) (by simpa using H9.out) (by omega) (by omega) hsz HT.out h8,HM.out,HG.out⟩):P:=h
theorem rq59 {P:Prop} (h:P:=by
 go_enter Tryz.func218,Tryz.ntmps218
 go_wp2_with (first
  | (go_at_call 80;(fail_if_success have z:=T0);refine HP.out.mono ?_;rintro e w3 ⟨rfl,hB⟩;have hs3:=HS.out.past hB;obtain ⟨-,-,q7,f2⟩:=hs3.cells;have HM:=hd_ hs3;have HG:Hid (w.grownBy w3 (some g)):=hd_ (ps_row _ hB);clear hB hs3;have T0:=hd_ True.intro)
  | (go_at_call 136;refine (HNB.out _ HM.out).mono ?_;rintro e w4 ⟨rfl,hG4⟩;have HG:=hd_ (grown_trans HG.out hG4);clear hG4))
 refine ⟨rfl, ?_⟩
 rw [HRES.out]
 exact ⟨rfl,HG.out⟩):P:=h
theorem rq60 {P:Prop} (h:P:=by
 go_enter Tryz.func218,Tryz.ntmps218
 go_wp2_with (first
  | (go_at_call 80;(fail_if_success have z:=T0);refine HP.out.mono ?_;rintro e w3 ⟨rfl,hB⟩;have hs3:=HS.out.past hB;obtain ⟨-,-,q7,f2⟩:=hs3.cells;have HM:=hd_ hs3;have HG:Hid (w.grownBy w3 (some g)):=hd_ (ps_row _ hB);clear hB hs3;have T0:=hd_ True.intro)
  | (go_at_call 136;refine (HNO.out _ HM.out).mono ?_;rintro e w4 ⟨rfl,hs4,hG4⟩;have HM:=hd_ hs4;have HG:=hd_ (grown_trans HG.out hG4);clear hs4 hG4)
  | (go_at_call 80;(have z:=T0;clear z);refine (HP2.out _ HM.out).mono ?_;rintro e w5 ⟨rfl,hB⟩;have hs3:=HM.out.past hB;obtain ⟨-,-,q7,f2⟩:=hs3.cells;have HM:=hd_ hs3;have HG:=hd_ (grown_below HG.out hB);clear hB hs3)
  | (go_at_call 236;refine (HQ'.out _ (HM.out.set (k+2) (by go_num))).mono ?_;rintro e w8 ⟨rfl,hG8⟩;have HG:=hd_ (grown_trans (grown_trans HG.out (ps_grown _ _ _ _)) hG8);clear hG8))
 refine ⟨rfl, ?_⟩
 rw [HRES.out]
 exact ⟨rfl,HG.out⟩):P:=h
theorem rq61 {P:Prop} (h:P:=by
 go_enter Tryz.func218,Tryz.ntmps218
 go_wp2_with (first
  | (go_at_call 80;(fail_if_success have z:=T0);refine HP.out.mono ?_;rintro e w3 ⟨rfl,hB⟩;have hs3:=HS.out.past hB;obtain ⟨-,-,q7,f2⟩:=hs3.cells;have HM:=hd_ hs3;have HG:Hid (w.grownBy w3 (some g)):=hd_ (ps_row _ hB);clear hB hs3;have T0:=hd_ True.intro)
  | (go_at_call 136;refine (HNO.out _ HM.out).mono ?_;rintro e w4 ⟨rfl,hs4,hG4⟩;have HM:=hd_ hs4;have HG:=hd_ (grown_trans HG.out hG4);clear hs4 hG4)
  | (go_at_call 80;(have z:=T0;clear z);refine (HP2.out _ HM.out).mono ?_;rintro e w5 ⟨rfl,hB⟩;have hs3:=HM.out.past hB;obtain ⟨-,-,q7,f2⟩:=hs3.cells;have HM:=hd_ hs3;have HG:=hd_ (grown_below HG.out hB);clear hB hs3))
 go_ret
 rw [HRES.out]
 exact ⟨_,_,rfl,((NdF.lit_ _ ⟨2,S,0⟩ 61 hsz).less HG.out.size),HM.out.past ((Below.refl _ _).alloc (Nat.le_refl _) _),grown_below HG.out ((Below.refl _ _).alloc (Nat.le_refl _) _)⟩):P:=h
theorem pone_any {g cw cp:Nat} {W P:Option Addr} {ws:List ByteArray} {ps:List Nat} (s:Nat->PrR) (hgo:Goes ws s) (hdg:∀ j,digW (wdAt ws j)=true->(wdAt ws j).data.toList.all digC=true/\(wdAt ws j).size<=6) (k:Nat)
  (HSUM:Hid (∀ (k':Nat) (w:World),PsSt g W cw ws P cp ps k' w->k<k'->k'<=ws.length->Calls Tryz.prog 138 #[.pointer (some ⟨g,0,none⟩)] w (PsTo g W cw ws P cp ps (s k') w)))
  (w:World) (hs:PsSt g W cw ws P cp ps k w) (hk:k<=ws.length) :
  Calls Tryz.prog 218 #[.pointer (some ⟨g,0,none⟩)] w (PsTo g W cw ws P cp ps (oneP ws s k) w):=by
 obtain ⟨R,hR⟩:∃ R,R=oneP ws s k:=⟨_,rfl⟩
 rw [← hR]
 obtain ⟨i0,hi0,hz0,hz1,hz2⟩:=info_parts tree_info
 have hf:=hs.few
 have hgl:=hs.lt
 have hsz:=hs.size k
 have h40:(⟨#[40]⟩:ByteArray).toList=[40]:=by decide +kernel
 have h41:(⟨#[41]⟩:ByteArray).toList=[41]:=by decide +kernel
 have h93:(⟨#[93]⟩:ByteArray).toList=[93]:=by decide +kernel
 have HS:=hd_ hs
 have H41:=hd_ h41
 have H93:=hd_ h93
 have HP:=hd_ (peek_any w hs hk)
 cases w40:isW ws k [40] with
 | true =>
  have hlt:=isW_lt w40
  have HQ:=hd_ (fun w' h=>HSUM.out (k+1) w' h (by omega) hlt)
  have hgb:=hgo (k+1) hlt
  cases hp:s (k+1) with
  | error x =>
   have HRES:=hd_ (hR.trans (oneP_1b w40 hp))
   have HQ':Hid (∀ w',PsSt g W cw ws P cp ps (k+1) w'->Calls Tryz.prog 138 #[.pointer (some ⟨g,0,none⟩)] w' (PsBad g ps x w')):=hd_ (fun w' h=>by have:=HQ.out w' h;rw [hp] at this;exact this)
   unfold isW at w40
   generalize wdAt ws k=S at *
   clear hp HQ hgb hs hgo hdg hR h40 h41 h93
   go_enter Tryz.func218,Tryz.ntmps218
   go_wp2_with (first
    | (go_at_call 80;(fail_if_success have z:=T0);refine HP.out.mono ?_;rintro e w3 ⟨rfl,hB⟩;have hs3:=HS.out.past hB;obtain ⟨-,-,q7,f2⟩:=hs3.cells;have HM:=hd_ hs3;have HG:Hid (w.grownBy w3 (some g)):=hd_ (ps_row _ hB);clear hB hs3;have T0:=hd_ True.intro)
    | (go_at_call 138;refine (HQ'.out _ (HM.out.set (k+1) (by go_num))).mono ?_;rintro e w8 ⟨rfl,hG8⟩;have HG:=hd_ (grown_trans (grown_trans HG.out (ps_grown _ _ _ _)) hG8);clear hG8))
   refine ⟨rfl, ?_⟩
   rw [HRES.out]
   exact ⟨rfl,HG.out⟩
  | ok r =>
   obtain ⟨x,k2⟩:=r
   obtain ⟨b1,b2,b3,b4⟩:=hgb.1 x k2 hp
   have HQ':Hid (∀ w',PsSt g W cw ws P cp ps (k+1) w'->Calls Tryz.prog 138 #[.pointer (some ⟨g,0,none⟩)] w' (PsTo g W cw ws P cp ps (.ok (x,k2)) w')):=hd_ (fun w' h=>by have:=HQ.out w' h;rw [hp] at this;exact this)
   cases w41:isW ws k2 [41] with
   | false =>
    have HRES:=hd_ (hR.trans (oneP_1c w40 hp w41))
    have HMU:Hid (∀ w',PsSt g W cw ws P cp ps k2 w'->Calls Tryz.prog 137 #[.pointer (some ⟨g,0,none⟩),.string ⟨#[41]⟩] w' (PsBad g ps k2 w')):=hd_ (fun w' h=>must_bad _ w' h b2 (by rw [H41.out];exact w41))
    unfold isW at w40
    generalize wdAt ws k=S at *
    clear hp HQ hgb hs hgo hdg hR h40 h41 h93 w41
    go_enter Tryz.func218,Tryz.ntmps218
    go_wp2_with (first
     | (go_at_call 80;(fail_if_success have z:=T0);refine HP.out.mono ?_;rintro e w3 ⟨rfl,hB⟩;have hs3:=HS.out.past hB;obtain ⟨-,-,q7,f2⟩:=hs3.cells;have HM:=hd_ hs3;have HG:Hid (w.grownBy w3 (some g)):=hd_ (ps_row _ hB);clear hB hs3;have T0:=hd_ True.intro)
     | (go_at_call 138;refine (HQ'.out _ (HM.out.set (k+1) (by go_num))).mono ?_;rintro e w8 ⟨A8,c8,rfl,hn8,hs8,hG8⟩;have HM:=hd_ hs8;have HG0:=HG;have HG:=hd_ (grown_trans (grown_trans HG.out (ps_grown _ _ _ _)) hG8);have HX:=hd_ (hn8.less (Nat.le_trans HG0.out.size (ps_grown _ _ _ _).size));clear hn8 hs8 hG8)
     | (go_at_call 137;refine (HMU.out _ HM.out).mono ?_;rintro e w9 ⟨rfl,hG9⟩;have HG:=hd_ (grown_trans HG.out hG9);clear hG9))
    refine ⟨rfl, ?_⟩
    rw [HRES.out]
    exact ⟨rfl,HG.out⟩
   | true =>
    have HRES:=hd_ (hR.trans (oneP_1g w40 hp w41))
    have HMU:Hid (∀ w',PsSt g W cw ws P cp ps k2 w'->Calls Tryz.prog 137 #[.pointer (some ⟨g,0,none⟩),.string ⟨#[41]⟩] w' (PsOk g W cw ws P cp ps (k2+1) (.tuple #[]) w')):=hd_ (fun w' h=>must_ok _ w' h b2 (by rw [H41.out];exact w41))
    unfold isW at w40
    generalize wdAt ws k=S at *
    clear hp HQ hgb hs hgo hdg hR h40 h41 h93 w41
    go_enter Tryz.func218,Tryz.ntmps218
    go_wp2_with (first
     | (go_at_call 80;(fail_if_success have z:=T0);refine HP.out.mono ?_;rintro e w3 ⟨rfl,hB⟩;have hs3:=HS.out.past hB;obtain ⟨-,-,q7,f2⟩:=hs3.cells;have HM:=hd_ hs3;have HG:Hid (w.grownBy w3 (some g)):=hd_ (ps_row _ hB);clear hB hs3;have T0:=hd_ True.intro)
     | (go_at_call 138;refine (HQ'.out _ (HM.out.set (k+1) (by go_num))).mono ?_;rintro e w8 ⟨A8,c8,rfl,hn8,hs8,hG8⟩;have HM:=hd_ hs8;have HG0:=HG;have HG:=hd_ (grown_trans (grown_trans HG.out (ps_grown _ _ _ _)) hG8);have HX:=hd_ (hn8.less (Nat.le_trans HG0.out.size (ps_grown _ _ _ _).size));clear hn8 hs8 hG8)
     | (go_at_call 137;refine (HMU.out _ HM.out).mono ?_;rintro e w9 ⟨rfl,hs9,hG9⟩;have HM:=hd_ hs9;have HX:=hd_ (HX.out.grow hG9 (fun k e=>by cases e;exact hgl));have HG:=hd_ (grown_trans HG.out hG9);clear hs9 hG9))
    go_ret
    rw [HRES.out]
    exact ⟨A8,c8,rfl,HX.out,HM.out,HG.out⟩
 | false =>
  cases w91:isW ws k [91] with
  | true =>
   have hlt:=isW_lt w91
   have HQ:=hd_ (fun w' h=>pmany_any s hgo ⟨#[93]⟩ (by rw [H93.out];simp) (k+1) (hd_ (fun k' w' h' h1 h2=>HSUM.out k' w' h' (by omega) h2)) w' h hlt)
   have hgb:=manyP_goes (ed:=[93]) (by simp) hgo (ws.length+1) 0 [] (k+1) (k+1) hlt (by simp) (by simp)
   rw [H93.out] at HQ
   cases hp:manyP ws [93] s (ws.length+1) 0 [] (k+1) with
   | error x =>
    have HRES:=hd_ (hR.trans (oneP_2b w40 w91 hp))
    have HQ':Hid (∀ w',PsSt g W cw ws P cp ps (k+1) w'->Calls Tryz.prog 236 #[.pointer (some ⟨g,0,none⟩),.string ⟨#[93]⟩] w' (PsBad g ps x w')):=hd_ (fun w' h=>by have:=HQ.out w' h;rw [hp] at this;exact this)
    unfold isW at w40 w91
    generalize wdAt ws k=S at *
    clear hp HQ hgb hs hgo hdg hR h40 h41 h93
    go_enter Tryz.func218,Tryz.ntmps218
    go_wp2_with (first
     | (go_at_call 80;(fail_if_success have z:=T0);refine HP.out.mono ?_;rintro e w3 ⟨rfl,hB⟩;have hs3:=HS.out.past hB;obtain ⟨-,-,q7,f2⟩:=hs3.cells;have HM:=hd_ hs3;have HG:Hid (w.grownBy w3 (some g)):=hd_ (ps_row _ hB);clear hB hs3;have T0:=hd_ True.intro)
     | (go_at_call 236;refine (HQ'.out _ (HM.out.set (k+1) (by go_num))).mono ?_;rintro e w8 ⟨rfl,hG8⟩;have HG:=hd_ (grown_trans (grown_trans HG.out (ps_grown _ _ _ _)) hG8);clear hG8))
    refine ⟨rfl, ?_⟩
    rw [HRES.out]
    exact ⟨rfl,HG.out⟩
   | ok r =>
    obtain ⟨n,x,k2⟩:=r
    obtain ⟨b1,b2,b3,b4⟩:=hgb.1 n x k2 hp
    have HRES:=hd_ (hR.trans (oneP_2g w40 w91 hp))
    have HQ':Hid (∀ w',PsSt g W cw ws P cp ps (k+1) w'->Calls Tryz.prog 236 #[.pointer (some ⟨g,0,none⟩),.string ⟨#[93]⟩] w' (PsMany g W cw ws P cp ps (.ok (n,x,k2)) w')):=hd_ (fun w' h=>by have:=HQ.out w' h;rw [hp] at this;exact this)
    unfold isW at w40 w91
    generalize wdAt ws k=S at *
    clear hp HQ hgb hs hgo hdg hR h40 h41 h93
    go_enter Tryz.func218,Tryz.ntmps218
    go_wp2_with (first
     | (go_at_call 80;(fail_if_success have z:=T0);refine HP.out.mono ?_;rintro e w3 ⟨rfl,hB⟩;have hs3:=HS.out.past hB;obtain ⟨-,-,q7,f2⟩:=hs3.cells;have HM:=hd_ hs3;have HG:Hid (w.grownBy w3 (some g)):=hd_ (ps_row _ hB);clear hB hs3;have T0:=hd_ True.intro)
     | (go_at_call 236;refine (HQ'.out _ (HM.out.set (k+1) (by go_num))).mono ?_;rintro e w8 ⟨A8,c8,rfl,hn8,hs8,hG8⟩;have HM:=hd_ hs8;have HG:=hd_ (grown_trans (grown_trans HG.out (ps_grown _ _ _ _)) hG8);have h8:=HG.out.size;have H0:=hd_ (own_litP (w:=w8) (base:=w8.heap.size) (e:=61) (size:=3) (g:=w8.heap.size) (n:=1) #[.int .i64 4,.string .empty,.int .i64 (n:Nat)] rfl (Nat.le_refl _) (by simp [maxLen]) (by simp));have HA:=hd_ (hn8.1.1.alloc (.cells #[.int .i64 4,.string .empty,.int .i64 (n:Nat)] 61));have HT:Hid (∀ z ∈ x,z.text.size<=maxLen):=hd_ hn8.1.2.2;clear hn8 hs8 hG8)
     | (at_builtin;refine wpList_app _ rfl (.tmp 46) (.tmp 47) _ rfl w8.heap.size 61 i0 _ 3 32 Tryz.underlying59 hi0 hz0 hz1 hz2 rfl (by omega) _ 1 _ rfl H0.out _ A8 x.length c8 _ rfl HA.out (nd_one x) (by simp only [maxLen];omega) (by omega) (by simp) ?_;intro v9 w9 hown9 hg9 hat9;clear hat9;have hB9:Below w8.heap.size w8 w9:=below_app ((Below.refl _ _).alloc (Nat.le_refl _) _) H0.out hg9 (by simp) (Nat.le_refl _);obtain ⟨A9,c9,hv9⟩:=own_slice hown9;subst hv9;have HM:=hd_ (HM.out.past hB9);have HG:=hd_ (grown_below HG.out hB9);have H9:=hd_ hown9;clear hown9 hg9 hB9))
    go_ret
    rw [HRES.out]
    exact ⟨A9,c9,by rw [List.length_cons,Nat.add_comm];rfl,ps_own1 (d:=⟨4,.empty,(n:Nat)⟩) (x:=x) (c:=c9) (n:=1+x.length) (by simpa using H9.out) (by omega) (by omega) (by simp [maxLen]) HT.out h8,HM.out,HG.out⟩
  | false =>
   by_cases hS:(wdAt ws k).data.toList=[]
   ·have hd:=dig_zero hS
    have hn:=nameF_nil hS
    have HRES:=hd_ (hR.trans (oneP_4 w40 w91 hd hn))
    have HNB:=hd_ (fun w' (h':PsSt g W cw ws P cp ps k w')=>pname_bad w' h' hk hn)
    unfold isW at w40 w91
    have he:(wdAt ws k).toList.isEmpty=true:=by simp [ByteArray.toList_eq,hS]
    generalize wdAt ws k=S at *
    clear hs hgo hdg hR h40 h41 h93 hd hn hS
    exact rq59
   ·have hS0:0<(wdAt ws k).size:=by
     rcases Nat.eq_zero_or_pos (wdAt ws k).size with h|h
     ·exact absurd (List.eq_nil_of_length_eq_zero (by simpa using h)) hS
     ·exact h
    have hda:=dig_at hS0
    have he:(wdAt ws k).toList.isEmpty=false:=by
     rw [ByteArray.toList_eq]
     cases hh:(wdAt ws k).data.toList with
     | nil=>exact absurd hh hS
     | cons c r=>rfl
    cases hd:digW (wdAt ws k) with
    | true =>
     obtain ⟨m1,m2⟩:=hdg k hd
     have HRES:=hd_ (hR.trans (oneP_3 w40 w91 hd))
     have HTK:=hd_ (fun w' (h':PsSt g W cw ws P cp ps k w')=>take_any w' h' hk)
     rw [hd] at hda
     have HAT:=hd_ (fun w'=>patoi_any (wdAt ws k) w' m1 hS m2)
     have hlt:=digW_lt hd
     unfold isW at w40 w91
     obtain ⟨q1,q2⟩:48<=(wdAt ws k)[0].toNat/\(wdAt ws k)[0].toNat<=57:=by
      have:=hda.symm
      simpa [digC] using this
     generalize wdAt ws k=S at *
     generalize numW S=N at *
     clear hs hgo hdg hR h40 h41 h93 hd hS m1 m2 hda
     have q3:(48:Int)<=(S[0].toNat:Int):=by omega
     have q4:(S[0].toNat:Int)<=57:=by omega
     have q5:decide ((48:Int)<=(S[0].toNat:Int))=true:=decide_eq_true q3
     have q6:decide ((S[0].toNat:Int)<=57)=true:=decide_eq_true q4
     go_enter Tryz.func218,Tryz.ntmps218
     go_wp2_with (first
      | (go_at_call 80;(fail_if_success have z:=T0);refine HP.out.mono ?_;rintro e w3 ⟨rfl,hB⟩;have hs3:=HS.out.past hB;obtain ⟨-,-,q7,f2⟩:=hs3.cells;have HM:=hd_ hs3;have HG:Hid (w.grownBy w3 (some g)):=hd_ (ps_row _ hB);clear hB hs3;have T0:=hd_ True.intro)
      | (go_at_call 133;refine (HTK.out _ HM.out).mono ?_;rintro e w4 ⟨rfl,hs4,hG4⟩;have HM:=hd_ hs4;have HG:=hd_ (grown_trans HG.out hG4);clear hs4 hG4)
      | (go_at_call 118;refine (HAT.out _).mono ?_;rintro e w5 ⟨rfl,hB⟩;have HM:=hd_ (HM.out.past hB);have HG:=hd_ (grown_below HG.out hB);clear hB))
     go_ret
     rw [HRES.out]
     exact ⟨_,_,rfl,((NdF.lit_ _ ⟨1,.empty,N⟩ 61 (by simp [maxLen])).less HG.out.size),HM.out.past ((Below.refl _ _).alloc (Nat.le_refl _) _),grown_below HG.out ((Below.refl _ _).alloc (Nat.le_refl _) _)⟩
    | false =>
     rw [hd] at hda
     have hcs:(wdAt ws k)[0].toNat<48∨(48<=(wdAt ws k)[0].toNat/\57<(wdAt ws k)[0].toNat):=by
      have h:=hda.symm
      simp [digC] at h
      omega
     cases hn:nameF (wdAt ws k) with
     | false =>
      have HRES:=hd_ (hR.trans (oneP_4 w40 w91 hd hn))
      have HNB:=hd_ (fun w' (h':PsSt g W cw ws P cp ps k w')=>pname_bad w' h' hk hn)
      unfold isW at w40 w91
      generalize wdAt ws k=S at *
      clear hs hgo hdg hR h40 h41 h93 hd hn hS hda
      rcases hcs with q1|⟨q1,q2⟩
      ·have q3:¬ (48:Int)<=(S[0].toNat:Int):=by omega
       have q5:decide ((48:Int)<=(S[0].toNat:Int))=false:=decide_eq_false q3
       exact rq59
      ·have q3:(48:Int)<=(S[0].toNat:Int):=by omega
       have q5:decide ((48:Int)<=(S[0].toNat:Int))=true:=decide_eq_true q3
       have q4:¬ (S[0].toNat:Int)<=57:=by omega
       have q6:decide ((S[0].toNat:Int)<=57)=false:=decide_eq_false q4
       exact rq59
     | true =>
      have hlt:=nameW_lt hn
      have HNO:=hd_ (fun w' (h':PsSt g W cw ws P cp ps k w')=>pname_ok w' h' hk hn)
      have HP2:=hd_ (fun w' (h':PsSt g W cw ws P cp ps (k+1) w')=>peek_any w' h' hlt)
      cases v40:isW ws (k+1) [40] with
      | false =>
       have HRES:=hd_ (hR.trans (oneP_5 w40 w91 hd hn v40))
       unfold isW at w40 w91 v40
       generalize wdAt ws k=S at *
       generalize wdAt ws (k+1)=S2 at *
       clear hs hgo hdg hR h40 h41 h93 hd hn hS hda
       rcases hcs with q1|⟨q1,q2⟩
       ·have q3:¬ (48:Int)<=(S[0].toNat:Int):=by omega
        have q5:decide ((48:Int)<=(S[0].toNat:Int))=false:=decide_eq_false q3
        exact rq61
       ·have q3:(48:Int)<=(S[0].toNat:Int):=by omega
        have q5:decide ((48:Int)<=(S[0].toNat:Int))=true:=decide_eq_true q3
        have q4:¬ (S[0].toNat:Int)<=57:=by omega
        have q6:decide ((S[0].toNat:Int)<=57)=false:=decide_eq_false q4
        exact rq61
      | true =>
       have hlt2:=isW_lt v40
       have HQ:=hd_ (fun w' h=>pmany_any s hgo ⟨#[41]⟩ (by rw [H41.out];simp) (k+2) (hd_ (fun k' w' h' h1 h2=>HSUM.out k' w' h' (by omega) h2)) w' h hlt2)
       have hgb:=manyP_goes (ed:=[41]) (by simp) hgo (ws.length+1) 0 [] (k+2) (k+2) hlt2 (by simp) (by simp)
       rw [H41.out] at HQ
       cases hp:manyP ws [41] s (ws.length+1) 0 [] (k+2) with
       | error x =>
        have HRES:=hd_ (hR.trans (oneP_6b w40 w91 hd hn v40 hp))
        have HQ':Hid (∀ w',PsSt g W cw ws P cp ps (k+2) w'->Calls Tryz.prog 236 #[.pointer (some ⟨g,0,none⟩),.string ⟨#[41]⟩] w' (PsBad g ps x w')):=hd_ (fun w' h=>by have:=HQ.out w' h;rw [hp] at this;exact this)
        unfold isW at w40 w91 v40
        generalize wdAt ws k=S at *
        generalize wdAt ws (k+1)=S2 at *
        clear hp HQ hgb hs hgo hdg hR h40 h41 h93 hd hn hS hda
        rcases hcs with q1|⟨q1,q2⟩
        ·have q3:¬ (48:Int)<=(S[0].toNat:Int):=by omega
         have q5:decide ((48:Int)<=(S[0].toNat:Int))=false:=decide_eq_false q3
         exact rq60
        ·have q3:(48:Int)<=(S[0].toNat:Int):=by omega
         have q5:decide ((48:Int)<=(S[0].toNat:Int))=true:=decide_eq_true q3
         have q4:¬ (S[0].toNat:Int)<=57:=by omega
         have q6:decide ((S[0].toNat:Int)<=57)=false:=decide_eq_false q4
         exact rq60
       | ok r =>
        obtain ⟨n,x,k2⟩:=r
        obtain ⟨b1,b2,b3,b4⟩:=hgb.1 n x k2 hp
        have HRES:=hd_ (hR.trans (oneP_6g w40 w91 hd hn v40 hp))
        have HQ':Hid (∀ w',PsSt g W cw ws P cp ps (k+2) w'->Calls Tryz.prog 236 #[.pointer (some ⟨g,0,none⟩),.string ⟨#[41]⟩] w' (PsMany g W cw ws P cp ps (.ok (n,x,k2)) w')):=hd_ (fun w' h=>by have:=HQ.out w' h;rw [hp] at this;exact this)
        unfold isW at w40 w91 v40
        generalize wdAt ws k=S at *
        generalize wdAt ws (k+1)=S2 at *
        clear hp HQ hgb hs hgo hdg hR h40 h41 h93 hd hn hS hda
        rcases hcs with q1|⟨q1,q2⟩
        ·have q3:¬ (48:Int)<=(S[0].toNat:Int):=by omega
         have q5:decide ((48:Int)<=(S[0].toNat:Int))=false:=decide_eq_false q3
         exact rq58
        ·have q3:(48:Int)<=(S[0].toNat:Int):=by omega
         have q5:decide ((48:Int)<=(S[0].toNat:Int))=true:=decide_eq_true q3
         have q4:¬ (S[0].toNat:Int)<=57:=by omega
         have q6:decide ((S[0].toNat:Int)<=57)=false:=decide_eq_false q4
         exact rq58
theorem plevels {g cw cp:Nat} {W P:Option Addr} {ws:List ByteArray} {ps:List Nat} (hdg:DgW ws):∀ f:Nat,
  (∀ (k:Nat) (w:World),PsSt g W cw ws P cp ps k w->k<=ws.length->3*(ws.length-k)+3<=f->Calls Tryz.prog 138 #[.pointer (some ⟨g,0,none⟩)] w (PsTo g W cw ws P cp ps (pE ws f 0 k) w)) /\
  (∀ (k:Nat) (w:World),PsSt g W cw ws P cp ps k w->k<=ws.length->3*(ws.length-k)+2<=f->Calls Tryz.prog 186 #[.pointer (some ⟨g,0,none⟩)] w (PsTo g W cw ws P cp ps (pE ws f 1 k) w)) /\
  (∀ (k:Nat) (w:World),PsSt g W cw ws P cp ps k w->k<=ws.length->3*(ws.length-k)+1<=f->Calls Tryz.prog 218 #[.pointer (some ⟨g,0,none⟩)] w (PsTo g W cw ws P cp ps (pE ws f 2 k) w)):=by
 intro f
 induction f with
 | zero=>exact ⟨fun k w _ _ h=>by omega,fun k w _ _ h=>by omega,fun k w _ _ h=>by omega⟩
 | succ f ih =>
  obtain ⟨i0,i1,i2⟩:=ih
  refine ⟨fun k w hs hk h=>?_,fun k w hs hk h=>?_,fun k w hs hk h=>?_⟩
  ·rw [pE_zero]
   exact sum_any (pE ws f 1) (pE_goes ws f 1) k (hd_ (fun k' w' h' a b=>i1 k' w' h' b (by omega))) w hs hk
  ·rw [pE_one]
   exact mul_any (pE ws f 2) (pE_goes ws f 2) k (hd_ (fun k' w' h' a b=>i2 k' w' h' b (by omega))) w hs hk
  ·rw [pE_two]
   exact pone_any (pE ws f 0) (pE_goes ws f 0) hdg k (hd_ (fun k' w' h' a b=>i0 k' w' h' b (by omega))) w hs hk
theorem psum_any {g cw cp k:Nat} {W P:Option Addr} {ws:List ByteArray} {ps:List Nat} (hdg:DgW ws) (w:World) (hs:PsSt g W cw ws P cp ps k w) (hk:k<=ws.length) :
  Calls Tryz.prog 138 #[.pointer (some ⟨g,0,none⟩)] w (PsTo g W cw ws P cp ps (pX ws k) w) :=
 (plevels hdg _).1 k w hs hk (by omega)
theorem ps_own2 {w':World} {A:Option Addr} {n c base:Nat} {d:Nd} {x:List Nd} {lo:Nat} (h:w'.ownsRow base 61 3 (.slice A n c) n ([.int .i64 d.op,.string d.text,.int .i64 d.n]++x.flatMap ndCells)) (hn:n=x.length+1) (hm:x.length<=60000) (hd:d.text.size<=maxLen) (hx:∀ z ∈ x,z.text.size<=maxLen) (hlo:lo<=base):NdF lo w' A (d::x):=by
 exact rq67
theorem rq64 {P:Prop} (h:P:=by
 clear hp HQ hgb
 go_region_dies
 all_goals go_wp2_with (go_at_call 138;refine (HQ'.out _ (by first|exact HM.out.past (Below.refl _ _).drew|exact HM.out.past ((Below.refl _ _).drew.alloc (Nat.le_refl _) _))).mono ?_;rintro e w8 ⟨rfl,hG8⟩;have HG:=hd_ (grown_trans (grown_below HG.out (by first|exact (Below.refl _ _).drew|exact (Below.refl _ _).drew.alloc (Nat.le_refl _) _)) hG8);clear hG8)
 all_goals (refine ⟨rfl, ?_⟩;rw [HRES.out];exact ⟨rfl,HG.out⟩)):P:=h
theorem rq65 {P:Prop} (h:P:=by
 all_goals go_wp2_with (go_at_call 137;refine (HMU.out _ HM.out).mono ?_;rintro e w10 ⟨rfl,hs10,hG10⟩;have HM:=hd_ hs10;have HN:=hd_ (HN.out.grow hG10 (fun k e=>by cases e;omega));have HG:=hd_ (grown_trans HG.out hG10);clear hs10 hG10)
 all_goals go_ret
 all_goals (rw [HRES.out];exact ⟨A9,c9,by rw [List.length_cons,Nat.add_comm];rfl,HN.out,HM.out,HG.out⟩)):P:=h
theorem rq68 {P:Prop} (h:P:=by
 all_goals go_wp2_with (go_at_call 137;refine (HMU.out _ HM.out).mono ?_;rintro e w10 ⟨rfl,hG10⟩;have HG:=hd_ (grown_trans HG.out hG10);clear hG10)
 all_goals (refine ⟨rfl, ?_⟩;rw [HRES.out];exact ⟨rfl,HG.out⟩)):P:=h
theorem pstmt_0 {g cw cp k:Nat} {W P:Option Addr} {ws:List ByteArray} {ps:List Nat} (hdg:DgW ws) (w:World) (hs:PsSt g W cw ws P cp ps k w) (hk:k<=ws.length) (wl:isW ws k [108,101,116]=false) :
  Calls Tryz.prog 82 #[.pointer (some ⟨g,0,none⟩)] w (PsTo g W cw ws P cp ps (stmtP ws k) w):=by
 obtain ⟨R,hR⟩:∃ R,R=stmtP ws k:=⟨_,rfl⟩
 rw [← hR]
 obtain ⟨i0,hi0,hz0,hz1,hz2⟩:=info_parts tree_info
 have hf:=hs.few
 have hgl:=hs.lt
 have h59:(⟨#[59]⟩:ByteArray).toList=[59]:=by decide +kernel
 have H59:=hd_ h59
 have stmt0_b:∀ {x},pX ws k=.error x->R=.error x:=fun h=>hR.trans (stmt0b wl h)
 have stmt0_c:∀ {x k2},pX ws k=.ok (x,k2)->isW ws k2 [59]=false->R=.error k2:=fun h h2=>hR.trans (stmt0c wl h h2)
 have stmt0_g:∀ {x k2},pX ws k=.ok (x,k2)->isW ws k2 [59]=true->R=.ok (⟨8,.empty,0⟩::x,k2+1):=fun h h2=>hR.trans (stmt0g wl h h2)
 have HP:=hd_ (fun w' (h':PsSt g W cw ws P cp ps k w')=>peek_any w' h' hk)
 have HS:=hd_ hs
 unfold isW at wl
 generalize wdAt ws k=S at *
 clear hs hR h59
 go_enter Tryz.func82,Tryz.ntmps82
 go_upto_region 2 with fail
 refine ps_named (fun w4=>PsSt g W cw ws P cp ps k w4/\w4.heap[w.heap.size]?=some (.cells #[.int .i64 8,.string .empty,.int .i64 0] 61 (0,0))/\Below w.heap.size w w4) ⟨HS.out.past ((Below.refl _ _).alloc (Nat.le_refl _) _),heap_new rfl,(Below.refl _ _).alloc (Nat.le_refl _) _⟩ ?_
 rintro w3 ⟨hs3,hh3,hB3⟩
 have hg3:w.heap.size<=w3.heap.size:=hB3.size
 have HS3:=hd_ hs3
 have HH3:=hd_ hh3
 have HG3:Hid (w.grownBy w3 (some g)):=hd_ (ps_row _ hB3)
 have hgw3:g<w3.heap.size:=hs3.lt
 have hhd:w.heap.size<w3.heap.size:=(Array.getElem?_eq_some_iff.1 hh3).1
 have hgd:g<w.heap.size:=hgl
 generalize hhe:w.heap.size=hd at *
 clear hs3 hh3 hB3
 go_upto_region 6 with (go_at_call 80;refine (HP.out _ HS3.out).mono ?_;rintro e w4 ⟨rfl,hB⟩;have HM:=hd_ (HS3.out.past hB);have hh4:=(hB.block hd hhd).trans HH3.out;have h0:w4.cell? ⟨hd,0,none⟩=some (.int .i64 8):=(by first|(rw [Lib.cell_of_heap hh4];done)|(rw [Lib.cell_of_heap hh4];rfl));have h1:w4.cell? ⟨hd,1,none⟩=some (.string .empty):=(by first|(rw [Lib.cell_of_heap hh4];done)|(rw [Lib.cell_of_heap hh4];rfl));have h2:w4.cell? ⟨hd,2,none⟩=some (.int .i64 0):=(by first|(rw [Lib.cell_of_heap hh4];done)|(rw [Lib.cell_of_heap hh4];rfl));have hh4:hd<w4.heap.size:=(Array.getElem?_eq_some_iff.1 hh4).1;have HG:=hd_ (grown_below HG3.out hB);have hg4:g<w4.heap.size:=Nat.lt_of_lt_of_le hgw3 hB.size;have hw4:w.heap.size<=w4.heap.size:=HG.out.size;clear hB)
 have HQ:=hd_ (fun (w':World) (h:PsSt g W cw ws P cp ps (k) w')=>psum_any hdg w' h hk)
 have hgb:=pX_goes ws (k) hk
 cases hp:pX ws (k) with
 | error x =>
  have HRES:=hd_ (stmt0_b hp)
  have HQ':Hid (∀ w',PsSt g W cw ws P cp ps (k) w'->Calls Tryz.prog 138 #[.pointer (some ⟨g,0,none⟩)] w' (PsBad g ps x w')):=hd_ (fun w' h=>by have:=HQ.out w' h;rw [hp] at this;exact this)
  exact rq64
 | ok r =>
  obtain ⟨x,k2⟩:=r
  obtain ⟨b1,b2,b3,b4⟩:=hgb.1 x k2 hp
  have HQ':Hid (∀ w',PsSt g W cw ws P cp ps (k) w'->Calls Tryz.prog 138 #[.pointer (some ⟨g,0,none⟩)] w' (PsTo g W cw ws P cp ps (.ok (x,k2)) w')):=hd_ (fun w' h=>by have:=HQ.out w' h;rw [hp] at this;exact this)
  cases w59:isW ws k2 [59] with
  | false =>
   have HRES:=hd_ (stmt0_c hp w59)
   have HMU:Hid (∀ w',PsSt g W cw ws P cp ps k2 w'->Calls Tryz.prog 137 #[.pointer (some ⟨g,0,none⟩),.string ⟨#[59]⟩] w' (PsBad g ps k2 w')):=hd_ (fun w' h=>must_bad _ w' h b2 (by rw [H59.out];exact w59))
   clear hp HQ hgb w59
   go_region_law (first
    | (go_simp;refine (HQ'.out _ (by first|exact HM.out.past (Below.refl _ _).drew|exact HM.out.past ((Below.refl _ _).drew.alloc (Nat.le_refl _) _))).mono ?_;rintro e w8 ⟨A8,c8,rfl,hn8,hs8,hG8⟩;have H7:=hd_ True.intro;(try (have H7:=hd_ (own_past (own_litP (w:=w4.drew) (base:=w4.heap.size) (e:=61) (size:=3) (g:=w4.heap.size) (n:=1) #[.int .i64 8,.string .empty,.int .i64 0] rfl (Nat.le_refl _) (by simp [maxLen]) (by simp)) hG8 hg4)));have h0:=(World.cell?_of_block (w:=w4.drew) (w':=w8) (a:=⟨hd,0,none⟩) (by first|exact hG8.block hd hh4 (by simp;omega)|exact (hG8.block hd (by simp;omega) (by simp;omega)).trans (Below.heap_alloc _ _ _ hh4))).trans h0;have h1:=(World.cell?_of_block (w:=w4.drew) (w':=w8) (a:=⟨hd,1,none⟩) (by first|exact hG8.block hd hh4 (by simp;omega)|exact (hG8.block hd (by simp;omega) (by simp;omega)).trans (Below.heap_alloc _ _ _ hh4))).trans h1;have h2:=(World.cell?_of_block (w:=w4.drew) (w':=w8) (a:=⟨hd,2,none⟩) (by first|exact hG8.block hd hh4 (by simp;omega)|exact (hG8.block hd (by simp;omega) (by simp;omega)).trans (Below.heap_alloc _ _ _ hh4))).trans h2;have HG:=hd_ (grown_trans (grown_below HG.out (by first|exact (Below.refl _ _).drew|exact (Below.refl _ _).drew.alloc (Nat.le_refl _) _)) hG8);have HM:=hd_ hs8;have HX:=hd_ hn8;have h8:w4.heap.size<=w8.heap.size:=Nat.le_trans (by simp) hG8.size;clear hn8 hs8 hG8;dsimp only)
    | ((refine step_app (P:=Tryz.prog) _ (by rfl) (.tmp 22) (.tmp 24) 59 (by rfl) w4.heap.size 61 i0 (.agg #[.int .i64 0,.string .empty,.int .i64 0]) 3 32 Tryz.underlying59 hi0 hz0 hz1 hz2 rfl (by omega) _ 1 _ (by rfl) H7.out _ A8 x.length c8 _ (by rfl) HX.out.1.1 (nd_one x) (by simp only [maxLen];omega) (by omega) (by omega) ?_);intro v9 w9 hown9 hg9 hat9;clear hat9;have hB9:Below w4.heap.size w8 w9:=below_app (Below.refl _ _) H7.out hg9 (by omega) (Nat.le_refl _);obtain ⟨A9,c9,hv9⟩:=own_slice hown9;subst hv9;have HM:=hd_ (HM.out.under hB9 hg4);have HG:=hd_ (grown_under HG.out hB9 hw4);have HN:=hd_ (ps_own2 (d:=⟨8,.empty,0⟩) (x:=x) (c:=c9) (n:=1+x.length) (by simpa using hown9) (by omega) (by omega) (by simp [maxLen]) HX.out.1.2.2 hw4);clear hown9 hg9 hB9)
    | ((refine step_app (P:=Tryz.prog) _ (by rfl) (.tmp 22) (.tmp 24) 59 (by rfl) w8.heap.size 61 i0 (.agg #[.int .i64 0,.string .empty,.int .i64 0]) 3 32 Tryz.underlying59 hi0 hz0 hz1 hz2 rfl (by omega) _ 1 _ (by rfl) (own_litP (w:=w8) (base:=w8.heap.size) (e:=61) (size:=3) (g:=w8.heap.size) (n:=1) #[.int .i64 8,.string .empty,.int .i64 0] rfl (Nat.le_refl _) (by simp [maxLen]) (by simp)) _ A8 x.length c8 _ (by rfl) (HX.out.1.1.alloc _) (nd_one x) (by simp only [maxLen];omega) (by omega) (by simp) ?_);intro v9 w9 hown9 hg9 hat9;clear hat9;have hB9:Below w8.heap.size w8 w9:=below_app ((Below.refl _ _).alloc (Nat.le_refl _) _) (own_litP (w:=w8) (base:=w8.heap.size) (e:=61) (size:=3) (g:=w8.heap.size) (n:=1) #[.int .i64 8,.string .empty,.int .i64 0] rfl (Nat.le_refl _) (by simp [maxLen]) (by simp)) hg9 (by simp) (Nat.le_refl _);obtain ⟨A9,c9,hv9⟩:=own_slice hown9;subst hv9;have HM:=hd_ (HM.out.under hB9 (Nat.lt_of_lt_of_le hg4 h8));have HG:=hd_ (grown_under HG.out hB9 (Nat.le_trans hw4 h8));have HN:=hd_ (ps_own2 (d:=⟨8,.empty,0⟩) (x:=x) (c:=c9) (n:=1+x.length) (by simpa using hown9) (by omega) (by omega) (by simp [maxLen]) HX.out.1.2.2 (Nat.le_trans hw4 h8));clear hown9 hg9 hB9))
   all_goals exact rq68
  | true =>
   have HRES:=hd_ (stmt0_g hp w59)
   have HMU:Hid (∀ w',PsSt g W cw ws P cp ps k2 w'->Calls Tryz.prog 137 #[.pointer (some ⟨g,0,none⟩),.string ⟨#[59]⟩] w' (PsOk g W cw ws P cp ps (k2+1) (.tuple #[]) w')):=hd_ (fun w' h=>must_ok _ w' h b2 (by rw [H59.out];exact w59))
   clear hp HQ hgb w59
   go_region_law (first
    | (go_simp;refine (HQ'.out _ (by first|exact HM.out.past (Below.refl _ _).drew|exact HM.out.past ((Below.refl _ _).drew.alloc (Nat.le_refl _) _))).mono ?_;rintro e w8 ⟨A8,c8,rfl,hn8,hs8,hG8⟩;have H7:=hd_ True.intro;(try (have H7:=hd_ (own_past (own_litP (w:=w4.drew) (base:=w4.heap.size) (e:=61) (size:=3) (g:=w4.heap.size) (n:=1) #[.int .i64 8,.string .empty,.int .i64 0] rfl (Nat.le_refl _) (by simp [maxLen]) (by simp)) hG8 hg4)));have h0:=(World.cell?_of_block (w:=w4.drew) (w':=w8) (a:=⟨hd,0,none⟩) (by first|exact hG8.block hd hh4 (by simp;omega)|exact (hG8.block hd (by simp;omega) (by simp;omega)).trans (Below.heap_alloc _ _ _ hh4))).trans h0;have h1:=(World.cell?_of_block (w:=w4.drew) (w':=w8) (a:=⟨hd,1,none⟩) (by first|exact hG8.block hd hh4 (by simp;omega)|exact (hG8.block hd (by simp;omega) (by simp;omega)).trans (Below.heap_alloc _ _ _ hh4))).trans h1;have h2:=(World.cell?_of_block (w:=w4.drew) (w':=w8) (a:=⟨hd,2,none⟩) (by first|exact hG8.block hd hh4 (by simp;omega)|exact (hG8.block hd (by simp;omega) (by simp;omega)).trans (Below.heap_alloc _ _ _ hh4))).trans h2;have HG:=hd_ (grown_trans (grown_below HG.out (by first|exact (Below.refl _ _).drew|exact (Below.refl _ _).drew.alloc (Nat.le_refl _) _)) hG8);have HM:=hd_ hs8;have HX:=hd_ hn8;have h8:w4.heap.size<=w8.heap.size:=Nat.le_trans (by simp) hG8.size;clear hn8 hs8 hG8;dsimp only)
    | ((refine step_app (P:=Tryz.prog) _ (by rfl) (.tmp 22) (.tmp 24) 59 (by rfl) w4.heap.size 61 i0 (.agg #[.int .i64 0,.string .empty,.int .i64 0]) 3 32 Tryz.underlying59 hi0 hz0 hz1 hz2 rfl (by omega) _ 1 _ (by rfl) H7.out _ A8 x.length c8 _ (by rfl) HX.out.1.1 (nd_one x) (by simp only [maxLen];omega) (by omega) (by omega) ?_);intro v9 w9 hown9 hg9 hat9;clear hat9;have hB9:Below w4.heap.size w8 w9:=below_app (Below.refl _ _) H7.out hg9 (by omega) (Nat.le_refl _);obtain ⟨A9,c9,hv9⟩:=own_slice hown9;subst hv9;have HM:=hd_ (HM.out.under hB9 hg4);have HG:=hd_ (grown_under HG.out hB9 hw4);have HN:=hd_ (ps_own2 (d:=⟨8,.empty,0⟩) (x:=x) (c:=c9) (n:=1+x.length) (by simpa using hown9) (by omega) (by omega) (by simp [maxLen]) HX.out.1.2.2 hw4);clear hown9 hg9 hB9)
    | ((refine step_app (P:=Tryz.prog) _ (by rfl) (.tmp 22) (.tmp 24) 59 (by rfl) w8.heap.size 61 i0 (.agg #[.int .i64 0,.string .empty,.int .i64 0]) 3 32 Tryz.underlying59 hi0 hz0 hz1 hz2 rfl (by omega) _ 1 _ (by rfl) (own_litP (w:=w8) (base:=w8.heap.size) (e:=61) (size:=3) (g:=w8.heap.size) (n:=1) #[.int .i64 8,.string .empty,.int .i64 0] rfl (Nat.le_refl _) (by simp [maxLen]) (by simp)) _ A8 x.length c8 _ (by rfl) (HX.out.1.1.alloc _) (nd_one x) (by simp only [maxLen];omega) (by omega) (by simp) ?_);intro v9 w9 hown9 hg9 hat9;clear hat9;have hB9:Below w8.heap.size w8 w9:=below_app ((Below.refl _ _).alloc (Nat.le_refl _) _) (own_litP (w:=w8) (base:=w8.heap.size) (e:=61) (size:=3) (g:=w8.heap.size) (n:=1) #[.int .i64 8,.string .empty,.int .i64 0] rfl (Nat.le_refl _) (by simp [maxLen]) (by simp)) hg9 (by simp) (Nat.le_refl _);obtain ⟨A9,c9,hv9⟩:=own_slice hown9;subst hv9;have HM:=hd_ (HM.out.under hB9 (Nat.lt_of_lt_of_le hg4 h8));have HG:=hd_ (grown_under HG.out hB9 (Nat.le_trans hw4 h8));have HN:=hd_ (ps_own2 (d:=⟨8,.empty,0⟩) (x:=x) (c:=c9) (n:=1+x.length) (by simpa using hown9) (by omega) (by omega) (by simp [maxLen]) HX.out.1.2.2 (Nat.le_trans hw4 h8));clear hown9 hg9 hB9))
   all_goals exact rq65
theorem pstmt_1 {g cw cp k:Nat} {W P:Option Addr} {ws:List ByteArray} {ps:List Nat} (hdg:DgW ws) (w:World) (hs:PsSt g W cw ws P cp ps k w) (hk:k<=ws.length) (wl:isW ws k [108,101,116]=true) :
  Calls Tryz.prog 82 #[.pointer (some ⟨g,0,none⟩)] w (PsTo g W cw ws P cp ps (stmtP ws k) w):=by
 obtain ⟨R,hR⟩:∃ R,R=stmtP ws k:=⟨_,rfl⟩
 rw [← hR]
 obtain ⟨i0,hi0,hz0,hz1,hz2⟩:=info_parts tree_info
 have hf:=hs.few
 have hgl:=hs.lt
 have hlt:=isW_lt wl
 have hts:=hs.size (k+1)
 have h59:(⟨#[59]⟩:ByteArray).toList=[59]:=by decide +kernel
 have h61:(⟨#[61]⟩:ByteArray).toList=[61]:=by decide +kernel
 have H59:=hd_ h59
 have HP:=hd_ (fun w' (h':PsSt g W cw ws P cp ps k w')=>peek_any w' h' hk)
 have HS:=hd_ hs
 cases hn:nameF (wdAt ws (k+1)) with
 | false =>
  have HRES:=hd_ (hR.trans (stmt1n wl hn))
  have HNB:=hd_ (fun w' (h':PsSt g W cw ws P cp ps (k+1) w')=>pname_bad w' h' hlt hn)
  unfold isW at wl
  generalize wdAt ws k=S at *
  clear hs hR h59 h61 hn hts
  go_enter Tryz.func82,Tryz.ntmps82
  go_upto_region 2 with fail
  refine ps_named (fun w4=>PsSt g W cw ws P cp ps k w4/\w4.heap[w.heap.size]?=some (.cells #[.int .i64 8,.string .empty,.int .i64 0] 61 (0,0))/\Below w.heap.size w w4) ⟨HS.out.past ((Below.refl _ _).alloc (Nat.le_refl _) _),heap_new rfl,(Below.refl _ _).alloc (Nat.le_refl _) _⟩ ?_
  rintro w3 ⟨hs3,hh3,hB3⟩
  have HS3:=hd_ hs3
  have HH3:=hd_ hh3
  have HG3:Hid (w.grownBy w3 (some g)):=hd_ (ps_row _ hB3)
  have hhd:w.heap.size<w3.heap.size:=(Array.getElem?_eq_some_iff.1 hh3).1
  have hgd:g<w.heap.size:=hgl
  generalize hhe:w.heap.size=hd at *
  clear hs3 hh3 hB3
  go_wp2_with (first
   | (go_at_call 80;refine (HP.out _ HS3.out).mono ?_;rintro e w4 ⟨rfl,hB⟩;have hs4:=HS3.out.past hB;obtain ⟨-,-,q7,f7⟩:=hs4.cells;have HM:=hd_ hs4;have HH4:=hd_ ((hB.block hd hhd).trans HH3.out);have HG:=hd_ (grown_below HG3.out hB);clear hB hs4)
   | (go_at_call 136;refine (HNB.out _ (HM.out.set (k+1) (by go_num))).mono ?_;rintro e w5 ⟨rfl,hG5⟩;have HG:=hd_ (grown_trans (grown_trans HG.out (ps_grown _ _ _ _)) hG5);clear hG5))
  refine ⟨rfl, ?_⟩
  rw [HRES.out]
  exact ⟨rfl,HG.out⟩
 | true =>
  have hlt2:=nameW_lt hn
  have HNO:=hd_ (fun w' (h':PsSt g W cw ws P cp ps (k+1) w')=>pname_ok w' h' hlt hn)
  cases w61:isW ws (k+2) [61] with
  | false =>
   have HRES:=hd_ (hR.trans (stmt1m wl hn w61))
   have HM2:Hid (∀ w',PsSt g W cw ws P cp ps (k+2) w'->Calls Tryz.prog 137 #[.pointer (some ⟨g,0,none⟩),.string ⟨#[61]⟩] w' (PsBad g ps (k+2) w')):=hd_ (fun w' h=>must_bad _ w' h hlt2 (by rw [h61];exact w61))
   unfold isW at wl
   generalize wdAt ws k=S at *
   generalize wdAt ws (k+1)=S1 at *
   clear hs hR h59 h61 hn w61
   go_enter Tryz.func82,Tryz.ntmps82
   go_upto_region 2 with fail
   refine ps_named (fun w4=>PsSt g W cw ws P cp ps k w4/\w4.heap[w.heap.size]?=some (.cells #[.int .i64 8,.string .empty,.int .i64 0] 61 (0,0))/\Below w.heap.size w w4) ⟨HS.out.past ((Below.refl _ _).alloc (Nat.le_refl _) _),heap_new rfl,(Below.refl _ _).alloc (Nat.le_refl _) _⟩ ?_
   rintro w3 ⟨hs3,hh3,hB3⟩
   have HS3:=hd_ hs3
   have HH3:=hd_ hh3
   have HG3:Hid (w.grownBy w3 (some g)):=hd_ (ps_row _ hB3)
   have hhd:w.heap.size<w3.heap.size:=(Array.getElem?_eq_some_iff.1 hh3).1
   have hgd:g<w.heap.size:=hgl
   generalize hhe:w.heap.size=hd at *
   clear hs3 hh3 hB3
   go_upto_region 5 with (first
    | (go_at_call 80;refine (HP.out _ HS3.out).mono ?_;rintro e w4 ⟨rfl,hB⟩;have hs4:=HS3.out.past hB;obtain ⟨-,-,q7,f7⟩:=hs4.cells;have HM:=hd_ hs4;have HH4:=hd_ ((hB.block hd hhd).trans HH3.out);have HG:=hd_ (grown_below HG3.out hB);clear hB hs4)
    | (go_at_call 136;refine (HNO.out _ (HM.out.set (k+1) (by go_num))).mono ?_;rintro e w5 ⟨rfl,hs5,hG5⟩;have hh5:=(hG5.block hd (by simp [World.setCell];exact (Array.getElem?_eq_some_iff.1 HH4.out).1) (by simp;omega)).trans ((Below.heap_setCell _ _ _ _ (show hd≠g by omega)).trans HH4.out);have f0:=Lib.frozen_of_heap hh5 0;have f1:=Lib.frozen_of_heap hh5 1;have f2:=Lib.frozen_of_heap hh5 2;have x0:w5.cell? ⟨hd,0,none⟩=some (.int .i64 8):=(by first|(rw [Lib.cell_of_heap hh5];done)|(rw [Lib.cell_of_heap hh5];rfl));have x1:w5.cell? ⟨hd,1,none⟩=some (.string .empty):=(by first|(rw [Lib.cell_of_heap hh5];done)|(rw [Lib.cell_of_heap hh5];rfl));have x2:w5.cell? ⟨hd,2,none⟩=some (.int .i64 0):=(by first|(rw [Lib.cell_of_heap hh5];done)|(rw [Lib.cell_of_heap hh5];rfl));have HH5:=hd_ hh5;have HM:=hd_ hs5;have HG:=hd_ (grown_trans (grown_trans HG.out (ps_grown _ _ _ _)) hG5);clear hs5 hG5 hh5))
   refine ps_named (fun w6=>PsSt g W cw ws P cp ps (k+2) w6/\w6.heap[hd]?=some (.cells #[.int .i64 7,.string S1,.int .i64 0] 61 (0,0))/\w.grownBy w6 (some g)) ⟨HM.out.under ((((Below.refl hd w5).setCell (p:=⟨hd,0,none⟩) (Nat.le_refl _) _).setCell (p:=⟨hd,1,none⟩) (Nat.le_refl _) _).setCell (p:=⟨hd,2,none⟩) (Nat.le_refl _) _) hgd,by have h:=HH5.out;simp [World.setCell,Array.getElem?_modify,h],grown_under HG.out ((((Below.refl hd w5).setCell (p:=⟨hd,0,none⟩) (Nat.le_refl _) _).setCell (p:=⟨hd,1,none⟩) (Nat.le_refl _) _).setCell (p:=⟨hd,2,none⟩) (Nat.le_refl _) _) (by omega)⟩ ?_
   rintro w6 ⟨hs6,hh6,hG6⟩
   have HM:=hd_ hs6
   have HH6:=hd_ hh6
   have HG:=hd_ hG6
   have hh6:hd<w6.heap.size:=(Array.getElem?_eq_some_iff.1 hh6).1
   clear hs6 hG6 x0 x1 x2 f0 f1 f2 HH5
   go_wp2_with (go_at_call 137;refine (HM2.out _ HM.out).mono ?_;rintro e w7 ⟨rfl,hG7⟩;have HG:=hd_ (grown_trans HG.out hG7);clear hG7)
   refine ⟨rfl, ?_⟩
   rw [HRES.out]
   exact ⟨rfl,HG.out⟩
  | true =>
   have hk3:=isW_lt w61
   have stmt1_b:∀ {x},pX ws (k+3)=.error x->R=.error x:=fun h=>hR.trans (stmt1b wl hn w61 h)
   have stmt1_c:∀ {x k2},pX ws (k+3)=.ok (x,k2)->isW ws k2 [59]=false->R=.error k2:=fun h h2=>hR.trans (stmt1c wl hn w61 h h2)
   have stmt1_g:∀ {x k2},pX ws (k+3)=.ok (x,k2)->isW ws k2 [59]=true->R=.ok (⟨7,wdAt ws (k+1),0⟩::x,k2+1):=fun h h2=>hR.trans (stmt1g wl hn w61 h h2)
   have HM2:Hid (∀ w',PsSt g W cw ws P cp ps (k+2) w'->Calls Tryz.prog 137 #[.pointer (some ⟨g,0,none⟩),.string ⟨#[61]⟩] w' (PsOk g W cw ws P cp ps (k+3) (.tuple #[]) w')):=hd_ (fun w' h=>must_ok _ w' h hlt2 (by rw [h61];exact w61))
   unfold isW at wl
   generalize wdAt ws k=S at *
   generalize wdAt ws (k+1)=S1 at *
   clear hs hR h59 h61 hn w61
   go_enter Tryz.func82,Tryz.ntmps82
   go_upto_region 2 with fail
   refine ps_named (fun w4=>PsSt g W cw ws P cp ps k w4/\w4.heap[w.heap.size]?=some (.cells #[.int .i64 8,.string .empty,.int .i64 0] 61 (0,0))/\Below w.heap.size w w4) ⟨HS.out.past ((Below.refl _ _).alloc (Nat.le_refl _) _),heap_new rfl,(Below.refl _ _).alloc (Nat.le_refl _) _⟩ ?_
   rintro w3 ⟨hs3,hh3,hB3⟩
   have HS3:=hd_ hs3
   have HH3:=hd_ hh3
   have HG3:Hid (w.grownBy w3 (some g)):=hd_ (ps_row _ hB3)
   have hhd:w.heap.size<w3.heap.size:=(Array.getElem?_eq_some_iff.1 hh3).1
   have hgd:g<w.heap.size:=hgl
   generalize hhe:w.heap.size=hd at *
   clear hs3 hh3 hB3
   go_upto_region 5 with (first
    | (go_at_call 80;refine (HP.out _ HS3.out).mono ?_;rintro e w4 ⟨rfl,hB⟩;have hs4:=HS3.out.past hB;obtain ⟨-,-,q7,f7⟩:=hs4.cells;have HM:=hd_ hs4;have HH4:=hd_ ((hB.block hd hhd).trans HH3.out);have HG:=hd_ (grown_below HG3.out hB);clear hB hs4)
    | (go_at_call 136;refine (HNO.out _ (HM.out.set (k+1) (by go_num))).mono ?_;rintro e w5 ⟨rfl,hs5,hG5⟩;have hh5:=(hG5.block hd (by simp [World.setCell];exact (Array.getElem?_eq_some_iff.1 HH4.out).1) (by simp;omega)).trans ((Below.heap_setCell _ _ _ _ (show hd≠g by omega)).trans HH4.out);have f0:=Lib.frozen_of_heap hh5 0;have f1:=Lib.frozen_of_heap hh5 1;have f2:=Lib.frozen_of_heap hh5 2;have x0:w5.cell? ⟨hd,0,none⟩=some (.int .i64 8):=(by first|(rw [Lib.cell_of_heap hh5];done)|(rw [Lib.cell_of_heap hh5];rfl));have x1:w5.cell? ⟨hd,1,none⟩=some (.string .empty):=(by first|(rw [Lib.cell_of_heap hh5];done)|(rw [Lib.cell_of_heap hh5];rfl));have x2:w5.cell? ⟨hd,2,none⟩=some (.int .i64 0):=(by first|(rw [Lib.cell_of_heap hh5];done)|(rw [Lib.cell_of_heap hh5];rfl));have HH5:=hd_ hh5;have HM:=hd_ hs5;have HG:=hd_ (grown_trans (grown_trans HG.out (ps_grown _ _ _ _)) hG5);clear hs5 hG5 hh5))
   refine ps_named (fun w6=>PsSt g W cw ws P cp ps (k+2) w6/\w6.heap[hd]?=some (.cells #[.int .i64 7,.string S1,.int .i64 0] 61 (0,0))/\w.grownBy w6 (some g)) ⟨HM.out.under ((((Below.refl hd w5).setCell (p:=⟨hd,0,none⟩) (Nat.le_refl _) _).setCell (p:=⟨hd,1,none⟩) (Nat.le_refl _) _).setCell (p:=⟨hd,2,none⟩) (Nat.le_refl _) _) hgd,by have h:=HH5.out;simp [World.setCell,Array.getElem?_modify,h],grown_under HG.out ((((Below.refl hd w5).setCell (p:=⟨hd,0,none⟩) (Nat.le_refl _) _).setCell (p:=⟨hd,1,none⟩) (Nat.le_refl _) _).setCell (p:=⟨hd,2,none⟩) (Nat.le_refl _) _) (by omega)⟩ ?_
   rintro w6 ⟨hs6,hh6,hG6⟩
   have HM:=hd_ hs6
   have HH6:=hd_ hh6
   have HG:=hd_ hG6
   have hh6:hd<w6.heap.size:=(Array.getElem?_eq_some_iff.1 hh6).1
   clear hs6 hG6 x0 x1 x2 f0 f1 f2 HH5
   go_upto_region 6 with (go_at_call 137;refine (HM2.out _ HM.out).mono ?_;rintro e w4 ⟨rfl,hs4,hG4⟩;have hh4:=(hG4.block hd hh6 (by simp;omega)).trans HH6.out;have h0:w4.cell? ⟨hd,0,none⟩=some (.int .i64 7):=(by first|(rw [Lib.cell_of_heap hh4];done)|(rw [Lib.cell_of_heap hh4];rfl));have h1:w4.cell? ⟨hd,1,none⟩=some (.string S1):=(by first|(rw [Lib.cell_of_heap hh4];done)|(rw [Lib.cell_of_heap hh4];rfl));have h2:w4.cell? ⟨hd,2,none⟩=some (.int .i64 0):=(by first|(rw [Lib.cell_of_heap hh4];done)|(rw [Lib.cell_of_heap hh4];rfl));have hh4:hd<w4.heap.size:=(Array.getElem?_eq_some_iff.1 hh4).1;have HG:=hd_ (grown_trans HG.out hG4);have hg4:g<w4.heap.size:=hs4.lt;have HM:=hd_ hs4;have hw4:w.heap.size<=w4.heap.size:=HG.out.size;clear hs4 hG4)
   have HQ:=hd_ (fun (w':World) (h:PsSt g W cw ws P cp ps (k+3) w')=>psum_any hdg w' h hk3)
   have hgb:=pX_goes ws (k+3) hk3
   cases hp:pX ws (k+3) with
   | error x =>
    have HRES:=hd_ (stmt1_b hp)
    have HQ':Hid (∀ w',PsSt g W cw ws P cp ps (k+3) w'->Calls Tryz.prog 138 #[.pointer (some ⟨g,0,none⟩)] w' (PsBad g ps x w')):=hd_ (fun w' h=>by have:=HQ.out w' h;rw [hp] at this;exact this)
    exact rq64
   | ok r =>
    obtain ⟨x,k2⟩:=r
    obtain ⟨b1,b2,b3,b4⟩:=hgb.1 x k2 hp
    have HQ':Hid (∀ w',PsSt g W cw ws P cp ps (k+3) w'->Calls Tryz.prog 138 #[.pointer (some ⟨g,0,none⟩)] w' (PsTo g W cw ws P cp ps (.ok (x,k2)) w')):=hd_ (fun w' h=>by have:=HQ.out w' h;rw [hp] at this;exact this)
    cases w59:isW ws k2 [59] with
    | false =>
     have HRES:=hd_ (stmt1_c hp w59)
     have HMU:Hid (∀ w',PsSt g W cw ws P cp ps k2 w'->Calls Tryz.prog 137 #[.pointer (some ⟨g,0,none⟩),.string ⟨#[59]⟩] w' (PsBad g ps k2 w')):=hd_ (fun w' h=>must_bad _ w' h b2 (by rw [H59.out];exact w59))
     clear hp HQ hgb w59
     go_region_law (first
      | (go_simp;refine (HQ'.out _ (by first|exact HM.out.past (Below.refl _ _).drew|exact HM.out.past ((Below.refl _ _).drew.alloc (Nat.le_refl _) _))).mono ?_;rintro e w8 ⟨A8,c8,rfl,hn8,hs8,hG8⟩;have H7:=hd_ True.intro;(try (have H7:=hd_ (own_past (own_litP (w:=w4.drew) (base:=w4.heap.size) (e:=61) (size:=3) (g:=w4.heap.size) (n:=1) #[.int .i64 7,.string S1,.int .i64 0] rfl (Nat.le_refl _) (by simp [maxLen]) (by simp)) hG8 hg4)));have h0:=(World.cell?_of_block (w:=w4.drew) (w':=w8) (a:=⟨hd,0,none⟩) (by first|exact hG8.block hd hh4 (by simp;omega)|exact (hG8.block hd (by simp;omega) (by simp;omega)).trans (Below.heap_alloc _ _ _ hh4))).trans h0;have h1:=(World.cell?_of_block (w:=w4.drew) (w':=w8) (a:=⟨hd,1,none⟩) (by first|exact hG8.block hd hh4 (by simp;omega)|exact (hG8.block hd (by simp;omega) (by simp;omega)).trans (Below.heap_alloc _ _ _ hh4))).trans h1;have h2:=(World.cell?_of_block (w:=w4.drew) (w':=w8) (a:=⟨hd,2,none⟩) (by first|exact hG8.block hd hh4 (by simp;omega)|exact (hG8.block hd (by simp;omega) (by simp;omega)).trans (Below.heap_alloc _ _ _ hh4))).trans h2;have HG:=hd_ (grown_trans (grown_below HG.out (by first|exact (Below.refl _ _).drew|exact (Below.refl _ _).drew.alloc (Nat.le_refl _) _)) hG8);have HM:=hd_ hs8;have HX:=hd_ hn8;have h8:w4.heap.size<=w8.heap.size:=Nat.le_trans (by simp) hG8.size;clear hn8 hs8 hG8;dsimp only)
      | ((refine step_app (P:=Tryz.prog) _ (by rfl) (.tmp 22) (.tmp 24) 59 (by rfl) w4.heap.size 61 i0 (.agg #[.int .i64 0,.string .empty,.int .i64 0]) 3 32 Tryz.underlying59 hi0 hz0 hz1 hz2 rfl (by omega) _ 1 _ (by rfl) H7.out _ A8 x.length c8 _ (by rfl) HX.out.1.1 (nd_one x) (by simp only [maxLen];omega) (by omega) (by omega) ?_);intro v9 w9 hown9 hg9 hat9;clear hat9;have hB9:Below w4.heap.size w8 w9:=below_app (Below.refl _ _) H7.out hg9 (by omega) (Nat.le_refl _);obtain ⟨A9,c9,hv9⟩:=own_slice hown9;subst hv9;have HM:=hd_ (HM.out.under hB9 hg4);have HG:=hd_ (grown_under HG.out hB9 hw4);have HN:=hd_ (ps_own2 (d:=⟨7,S1,0⟩) (x:=x) (c:=c9) (n:=1+x.length) (by simpa using hown9) (by omega) (by omega) hts HX.out.1.2.2 hw4);clear hown9 hg9 hB9)
      | ((refine step_app (P:=Tryz.prog) _ (by rfl) (.tmp 22) (.tmp 24) 59 (by rfl) w8.heap.size 61 i0 (.agg #[.int .i64 0,.string .empty,.int .i64 0]) 3 32 Tryz.underlying59 hi0 hz0 hz1 hz2 rfl (by omega) _ 1 _ (by rfl) (own_litP (w:=w8) (base:=w8.heap.size) (e:=61) (size:=3) (g:=w8.heap.size) (n:=1) #[.int .i64 7,.string S1,.int .i64 0] rfl (Nat.le_refl _) (by simp [maxLen]) (by simp)) _ A8 x.length c8 _ (by rfl) (HX.out.1.1.alloc _) (nd_one x) (by simp only [maxLen];omega) (by omega) (by simp) ?_);intro v9 w9 hown9 hg9 hat9;clear hat9;have hB9:Below w8.heap.size w8 w9:=below_app ((Below.refl _ _).alloc (Nat.le_refl _) _) (own_litP (w:=w8) (base:=w8.heap.size) (e:=61) (size:=3) (g:=w8.heap.size) (n:=1) #[.int .i64 7,.string S1,.int .i64 0] rfl (Nat.le_refl _) (by simp [maxLen]) (by simp)) hg9 (by simp) (Nat.le_refl _);obtain ⟨A9,c9,hv9⟩:=own_slice hown9;subst hv9;have HM:=hd_ (HM.out.under hB9 (Nat.lt_of_lt_of_le hg4 h8));have HG:=hd_ (grown_under HG.out hB9 (Nat.le_trans hw4 h8));have HN:=hd_ (ps_own2 (d:=⟨7,S1,0⟩) (x:=x) (c:=c9) (n:=1+x.length) (by simpa using hown9) (by omega) (by omega) hts HX.out.1.2.2 (Nat.le_trans hw4 h8));clear hown9 hg9 hB9))
     all_goals exact rq68
    | true =>
     have HRES:=hd_ (stmt1_g hp w59)
     have HMU:Hid (∀ w',PsSt g W cw ws P cp ps k2 w'->Calls Tryz.prog 137 #[.pointer (some ⟨g,0,none⟩),.string ⟨#[59]⟩] w' (PsOk g W cw ws P cp ps (k2+1) (.tuple #[]) w')):=hd_ (fun w' h=>must_ok _ w' h b2 (by rw [H59.out];exact w59))
     clear hp HQ hgb w59
     go_region_law (first
      | (go_simp;refine (HQ'.out _ (by first|exact HM.out.past (Below.refl _ _).drew|exact HM.out.past ((Below.refl _ _).drew.alloc (Nat.le_refl _) _))).mono ?_;rintro e w8 ⟨A8,c8,rfl,hn8,hs8,hG8⟩;have H7:=hd_ True.intro;(try (have H7:=hd_ (own_past (own_litP (w:=w4.drew) (base:=w4.heap.size) (e:=61) (size:=3) (g:=w4.heap.size) (n:=1) #[.int .i64 7,.string S1,.int .i64 0] rfl (Nat.le_refl _) (by simp [maxLen]) (by simp)) hG8 hg4)));have h0:=(World.cell?_of_block (w:=w4.drew) (w':=w8) (a:=⟨hd,0,none⟩) (by first|exact hG8.block hd hh4 (by simp;omega)|exact (hG8.block hd (by simp;omega) (by simp;omega)).trans (Below.heap_alloc _ _ _ hh4))).trans h0;have h1:=(World.cell?_of_block (w:=w4.drew) (w':=w8) (a:=⟨hd,1,none⟩) (by first|exact hG8.block hd hh4 (by simp;omega)|exact (hG8.block hd (by simp;omega) (by simp;omega)).trans (Below.heap_alloc _ _ _ hh4))).trans h1;have h2:=(World.cell?_of_block (w:=w4.drew) (w':=w8) (a:=⟨hd,2,none⟩) (by first|exact hG8.block hd hh4 (by simp;omega)|exact (hG8.block hd (by simp;omega) (by simp;omega)).trans (Below.heap_alloc _ _ _ hh4))).trans h2;have HG:=hd_ (grown_trans (grown_below HG.out (by first|exact (Below.refl _ _).drew|exact (Below.refl _ _).drew.alloc (Nat.le_refl _) _)) hG8);have HM:=hd_ hs8;have HX:=hd_ hn8;have h8:w4.heap.size<=w8.heap.size:=Nat.le_trans (by simp) hG8.size;clear hn8 hs8 hG8;dsimp only)
      | ((refine step_app (P:=Tryz.prog) _ (by rfl) (.tmp 22) (.tmp 24) 59 (by rfl) w4.heap.size 61 i0 (.agg #[.int .i64 0,.string .empty,.int .i64 0]) 3 32 Tryz.underlying59 hi0 hz0 hz1 hz2 rfl (by omega) _ 1 _ (by rfl) H7.out _ A8 x.length c8 _ (by rfl) HX.out.1.1 (nd_one x) (by simp only [maxLen];omega) (by omega) (by omega) ?_);intro v9 w9 hown9 hg9 hat9;clear hat9;have hB9:Below w4.heap.size w8 w9:=below_app (Below.refl _ _) H7.out hg9 (by omega) (Nat.le_refl _);obtain ⟨A9,c9,hv9⟩:=own_slice hown9;subst hv9;have HM:=hd_ (HM.out.under hB9 hg4);have HG:=hd_ (grown_under HG.out hB9 hw4);have HN:=hd_ (ps_own2 (d:=⟨7,S1,0⟩) (x:=x) (c:=c9) (n:=1+x.length) (by simpa using hown9) (by omega) (by omega) hts HX.out.1.2.2 hw4);clear hown9 hg9 hB9)
      | ((refine step_app (P:=Tryz.prog) _ (by rfl) (.tmp 22) (.tmp 24) 59 (by rfl) w8.heap.size 61 i0 (.agg #[.int .i64 0,.string .empty,.int .i64 0]) 3 32 Tryz.underlying59 hi0 hz0 hz1 hz2 rfl (by omega) _ 1 _ (by rfl) (own_litP (w:=w8) (base:=w8.heap.size) (e:=61) (size:=3) (g:=w8.heap.size) (n:=1) #[.int .i64 7,.string S1,.int .i64 0] rfl (Nat.le_refl _) (by simp [maxLen]) (by simp)) _ A8 x.length c8 _ (by rfl) (HX.out.1.1.alloc _) (nd_one x) (by simp only [maxLen];omega) (by omega) (by simp) ?_);intro v9 w9 hown9 hg9 hat9;clear hat9;have hB9:Below w8.heap.size w8 w9:=below_app ((Below.refl _ _).alloc (Nat.le_refl _) _) (own_litP (w:=w8) (base:=w8.heap.size) (e:=61) (size:=3) (g:=w8.heap.size) (n:=1) #[.int .i64 7,.string S1,.int .i64 0] rfl (Nat.le_refl _) (by simp [maxLen]) (by simp)) hg9 (by simp) (Nat.le_refl _);obtain ⟨A9,c9,hv9⟩:=own_slice hown9;subst hv9;have HM:=hd_ (HM.out.under hB9 (Nat.lt_of_lt_of_le hg4 h8));have HG:=hd_ (grown_under HG.out hB9 (Nat.le_trans hw4 h8));have HN:=hd_ (ps_own2 (d:=⟨7,S1,0⟩) (x:=x) (c:=c9) (n:=1+x.length) (by simpa using hown9) (by omega) (by omega) hts HX.out.1.2.2 (Nat.le_trans hw4 h8));clear hown9 hg9 hB9))
     all_goals exact rq65
theorem pstmt_any {g cw cp k:Nat} {W P:Option Addr} {ws:List ByteArray} {ps:List Nat} (hdg:DgW ws) (w:World) (hs:PsSt g W cw ws P cp ps k w) (hk:k<=ws.length) :
  Calls Tryz.prog 82 #[.pointer (some ⟨g,0,none⟩)] w (PsTo g W cw ws P cp ps (stmtP ws k) w):=by
 cases wl:isW ws k [108,101,116] with
 | false=>exact pstmt_0 hdg w hs hk wl
 | true=>exact pstmt_1 hdg w hs hk wl
theorem pblank (x:Nat) (W:World):Calls Tryz.prog 134 #[.int .i32 (x:Int)] W fun e w'=>e=.returned (.bool (blankR x))/\∃ q,w'=W.drewN q:=by
 by_cases h:x=32
 ·subst h
  go_enter Tryz.func134,Tryz.ntmps134
  go_wp2
  go_ret
  exact ⟨rfl,0,rfl⟩
 ·have hb:blankR x=false:=by simpa [blankR] using h
  rw [hb]
  have h2:((x:Int)==32)=false:=by simp;omega
  clear hb
  go_enter Tryz.func134,Tryz.ntmps134
  go_wp2
  go_ret
  exact ⟨by first|rfl|(simp;done)|(simp;omega),0,rfl⟩
theorem pfields (s:ByteArray) (w:World) (hs:s.size<=60000):Calls Tryz.prog 132 #[.string (s.extract 1 s.size),.func (.func 134) #[] #[]] w fun e w'=>∃ A c,e=.returned (.slice A (fldW s).length c)/\Sl w' w'.heap.size 1 A (fldW s).length ((fldW s).map .string)/\Below w.heap.size w w' :=
 (Tryz.strings_FieldsFunc 134 #[] (enters_of Tryz.func134 (by kernel_rfl) rfl) blankR (s.extract 1 s.size) w (by simp;omega) (fun W x _=>pblank x W)).mono (by
  rintro e w' ⟨A,rfl,-,ho,hB⟩
  exact ⟨_,_,rfl,.of_own ho,hB⟩)
theorem own_capM {w:World} {base:Nat} {e:TypeId} {size n c:Nat} {A:Option Addr} {xs:List Value} (h:w.ownsRow base e size (.slice A n c) n xs):n<=c:=by
 rcases h.2 with ⟨h1,h2⟩|⟨g,cap,cur,h1,h2⟩
 ·omega
 ·cases h1
  omega
theorem pjoin (out:List ByteArray) (A:Option Addr) (c B:Nat) (w:World) (h:w.ownsRow B 9 1 (.slice A out.length c) out.length (out.map .string)) (hc:costL out<=3600000000):Calls Tryz.prog 135 #[.slice A out.length c,.string ⟨#[32]⟩] w (Ret w (.string (joinW out))):=by
 cases out with
 | nil=>exact (Tryz.strings_Join_none A c _ w).mono (by rintro e w' ⟨rfl,rfl⟩;exact ⟨rfl,Below.refl _ _⟩)
 | cons x r =>
  have h1:=Sl.of_own h
  obtain ⟨b,off,rfl,hb,hcell⟩:=h1.2 (by simp)
  have hl:=costL_len (x::r)
  have hj:=join_cost (x::r)
  refine (Tryz.strings_Join b off c (x::r) ⟨#[32]⟩ w (fun j y hy=>?_) hb (by omega) (own_capM h) ?_).mono (by rintro e w' ⟨rfl,hB⟩;exact ⟨rfl,hB⟩)
  ·exact hcell j (.string y) (by rw [List.getElem?_map,hy];rfl)
  ·exact Nat.le_trans hj (by omega)
def psNext (w:World) (g:Nat):Nat:=match w.cell? ⟨g,2,none⟩ with
 | some (.int _ v)=>v.toNat
 | _=>0
theorem psNext_at {g cw cp k:Nat} {W P:Option Addr} {ws:List ByteArray} {ps:List Nat} {w:World} (h:PsSt g W cw ws P cp ps k w):psNext w g=k:=by
 rw [psNext,h.cells.2.2.1];simp
theorem pnote_any {g cw cp k:Nat} {W P:Option Addr} {ws:List ByteArray} {ps:List Nat} (hsz:∀ j,(wdAt ws j).size<=60000) (w:World) (hs:PsSt g W cw ws P cp ps k w) (hk:k<=ws.length) :
  Calls Tryz.prog 81 #[.pointer (some ⟨g,0,none⟩)] w (PsTo g W cw ws P cp ps (.ok (noteP ws k)) w):=by
 obtain ⟨i0,hi0,hz0,hz1,hz2⟩:=info_parts str_info
 obtain ⟨N,hN⟩:∃ N,N=noteP ws k:=⟨_,rfl⟩
 rw [← hN]
 unfold noteP at hN
 have hf:=hs.few
 have hgl:=hs.lt
 have HS:=hd_ hs
 have HSZ:=hd_ hsz
 have HPK:=hd_ (fun k' w' (h:PsSt g W cw ws P cp ps k' w') hk=>peek_any w' h hk)
 have HTK:=hd_ (fun k' w' (h:PsSt g W cw ws P cp ps k' w') hk=>take_any w' h hk)
 obtain ⟨Q,hQ⟩:∃ Q,Q=notesP ws ws.length [] k:=⟨_,rfl⟩
 rw [← hQ] at hN
 have HN:=hd_ hN
 have HQ:=hd_ hQ
 clear hs hsz hN hQ
 go_enter Tryz.func81,Tryz.ntmps81
 go_wp2
 go_loopw [3] (fun v wr=>∃ (out:List ByteArray) (k2 j:Nat) (A2:Option Addr) (c2:Nat),v=.slice A2 out.length c2/\k<=k2/\k2<=ws.length/\ws.length<=k2+j/\out.length<=3600000000/\w.heap.size<=wr.heap.size/\Hid (costL out<=60000*(k2-k))/\Hid (wr.ownsRow w.heap.size 9 1 (.slice A2 out.length c2) out.length (out.map .string))/\Hid (PsSt g W cw ws P cp ps k2 wr)/\Hid (w.grownBy wr (some g))/\Hid (Q=notesP ws j out k2)) (fun _ wr=>60001-psNext wr g)
 case atStart=>exact ⟨[],k,ws.length,none,0,rfl,Nat.le_refl _,hk,by omega,by simp,Nat.le_refl _,hd_ (by simp [costL]),hd_ (World.ownsRow_nil _ _ _ _),HS,hd_ (World.grownBy.refl _ _),HQ⟩
 case round =>
  obtain ⟨out,k2,j,A2,c2,rfl,hk2,hl2,hj,hol,hsz,HC,HO,HM,HG,HR⟩:=hrel
  have HM0:=HM
  have HP:=hd_ (HPK.out k2 wr HM.out hl2)
  have HHP:=hd_ (fun (W':World)=>Tryz.strings_HasPrefix (wdAt ws k2) ⟨#[35]⟩ W')
  cases hh:hashW (wdAt ws k2) with
  | false =>
   have hres:Q=(out,k2):=by
    rw [HR.out]
    cases j with
    | zero=>rfl
    | succ j=>rw [notesP,if_neg (by rw [hh];decide)]
   have HRES:Hid (N=([⟨9,joinW out,0⟩],k2)):=hd_ (by rw [HN.out,hres])
   have HHP':Hid (∀ W',Calls Tryz.prog 79 #[.string (wdAt ws k2),.string ⟨#[35]⟩] W' fun e w'=>e=.returned (.bool false)/\w'=W'):=hd_ (fun W'=>by have h:=HHP.out W';rw [← hh];exact h)
   have HCS:Hid (costL out<=3600000000):=hd_ (Nat.le_trans HC.out (by omega))
   have HJS:=hd_ (joinW_size out)
   generalize wdAt ws k2=S at *
   clear hh hres HHP
   go_wp2_with (first
    | (go_at_call 80;refine HP.out.mono ?_;rintro e w3 ⟨rfl,hB⟩;have HM:=hd_ (HM.out.past hB);have HG:=hd_ (grown_below HG.out hB);have HO:=hd_ (own_below HO.out hB);clear hB)
    | (go_at_call 79;refine (HHP'.out _).mono ?_;rintro e w4 ⟨rfl,rfl⟩)
    | (go_at_call 135;refine (pjoin out A2 c2 _ _ HO.out HCS.out).mono ?_;rintro e w5 ⟨rfl,hB⟩;have HM:=hd_ (HM.out.past hB);have HG:=hd_ (grown_below HG.out hB);clear hB))
   go_ret
   rw [HRES.out]
   exact ⟨_,_,rfl,(NdF.lit_ _ ⟨9,joinW out,0⟩ 61 (Nat.le_trans HJS.out (Nat.le_trans HCS.out (by simp only [maxLen];omega)))).less HG.out.size,HM.out.past ((Below.refl _ _).alloc (Nat.le_refl _) _),grown_below HG.out ((Below.refl _ _).alloc (Nat.le_refl _) _)⟩
  | true =>
   have hlt:=hashW_lt hh
   obtain ⟨j,rfl⟩:∃ j',j=j'+1:=⟨j-1,by omega⟩
   have hres:Q=notesP ws j (out++fldW (wdAt ws k2)) (k2+1):=by rw [HR.out,notesP,if_pos hh]
   have HRES:=hd_ hres
   have HHP':Hid (∀ W',Calls Tryz.prog 79 #[.string (wdAt ws k2),.string ⟨#[35]⟩] W' fun e w'=>e=.returned (.bool true)/\w'=W'):=hd_ (fun W'=>by have h:=HHP.out W';rw [← hh];exact h)
   have HT:=hd_ (fun w' h=>HTK.out k2 w' h hl2)
   have hss:=HSZ.out k2
   have hfc:=fld_cost hh
   have hs0:0<(wdAt ws k2).size:=by
    rcases Nat.eq_zero_or_pos (wdAt ws k2).size with h1|h1
    ·have:(wdAt ws k2).data.toList=[]:=List.eq_nil_of_length_eq_zero (by simpa using h1)
     simp [hashW,Lib.hasPrefix,this] at hh
    ·exact h1
   have hcost:costL (out++fldW (wdAt ws k2))<=60000*(k2+1-k):=by
    rw [costL_app]
    have:=HC.out
    have e:k2+1-k=(k2-k)+1:=by omega
    rw [e,Nat.mul_add]
    omega
   have HCO:=hd_ hcost
   have hfl:(fldW (wdAt ws k2)).length<=60000:=Nat.le_trans (costL_len _) (by omega)
   have HFF:=hd_ (fun w'=>pfields (wdAt ws k2) w' hss)
   have hlen2:out.length+(fldW (wdAt ws k2)).length<=3600000000:=by
    have:=costL_len (out++fldW (wdAt ws k2))
    rw [List.length_append] at this
    have:k2+1-k<=60000:=by omega
    have:=Nat.mul_le_mul_left 60000 this
    omega
   have hsl:∀ W',(Instr.slice 9 (.string (wdAt ws k2)) (some (.int .i64 1)) none none).run Tryz.prog W'=.ok (.string ((wdAt ws k2).extract 1 (wdAt ws k2).size)) W':=fun W'=>by
    rw [run_slice_string_from_if (P:=Tryz.prog) W' 9 (wdAt ws k2) .i64 1 Tryz.underlying9,if_pos ⟨by omega,by omega⟩]
    rfl
   generalize fldW (wdAt ws k2)=F at *
   generalize wdAt ws k2=S at *
   clear hh hres HHP hfc hss hcost
   go_wp2_with (first
    | (go_at_call 80;refine HP.out.mono ?_;rintro e w3 ⟨rfl,hB⟩;have HM:=hd_ (HM.out.past hB);have HG:=hd_ (grown_below HG.out hB);have HO:=hd_ (own_below HO.out hB);have hsz:=Nat.le_trans hsz hB.size;clear hB)
    | (go_at_call 79;refine (HHP'.out _).mono ?_;rintro e w4 ⟨rfl,rfl⟩)
    | (go_at_call 133;refine (HT.out _ HM.out).mono ?_;rintro e w5 ⟨rfl,hs5,hG5⟩;have HM:=hd_ hs5;have HG:=hd_ (grown_trans HG.out hG5);have HO:=hd_ (own_past HO.out hG5 hgl);have hsz:=Nat.le_trans hsz hG5.size;clear hs5 hG5)
    | (go_at_call 132;refine (HFF.out _).mono ?_;rintro e w6 ⟨A6,c6,rfl,hx,hB⟩;have HX:=hd_ hx;have HM:=hd_ (HM.out.past hB);have HG:=hd_ (grown_below HG.out hB);have HO:=hd_ (own_below HO.out hB);have hsz:=Nat.le_trans hsz hB.size;clear hB hx)
    | (at_builtin;refine wpList_app _ rfl (.tmp 7) (.tmp 11) _ rfl w.heap.size 9 i0 _ 1 16 Tryz.underlying72 hi0 hz0 hz1 hz2 rfl (by omega) _ out.length _ rfl HO.out _ A6 F.length c6 _ rfl HX.out (fun u hu=>by obtain ⟨z,-,rfl⟩:=List.mem_map.1 hu;rfl) (by simp only [maxLen];omega) (by omega) (by omega) ?_;intro v9 w9 hown9 hg9 hat9;clear hat9;have hB9:Below w.heap.size w6 w9:=below_app (Below.refl _ _) HO.out hg9 (by omega) (Nat.le_refl _);obtain ⟨A9,c9,hv9⟩:=own_slice hown9;subst hv9;have HM:=hd_ (HM.out.under hB9 hgl);have HG:=hd_ (grown_under HG.out hB9 (Nat.le_refl _));have H9:=hd_ hown9;have hsz:=Nat.le_trans hsz hB9.size;clear hown9 hg9 hB9))
   have hlen1:(out++F).length=out.length+F.length:=by simp
   go_roundw
   case measure=>rw [psNext_at HM.out];simp only [psNext_at HM0.out];omega
   case rel=>exact ⟨out++F,k2+1,j,A9,c9,by rw [hlen1],by omega,by omega,by omega,by omega,hsz,HCO,hd_ (by rw [hlen1,List.map_append];exact H9.out),HM,HG,HRES⟩
theorem pcatch_bad (b0 b1 b2:Nat) (x:Int) (vo vp ve:Value) (older:List PanicEntry) (w:World) (h0:w.heap[b0]?=some (.cells #[vo] 31 (0,0))) (h1:w.heap[b1]?=some (.cells #[vp] 3 (0,0))) (h2:w.heap[b2]?=some (.cells #[ve] 27 (0,0))) (l01:b0<b1) (l12:b1<b2) :
  CallsD Tryz.prog 78 #[.pointer (some ⟨b0,0,none⟩),.pointer (some ⟨b1,0,none⟩),.pointer (some ⟨b2,0,none⟩)] (.panicking ({ v:=.iface 150 (.agg #[.int .i64 x]),recovered:=false }::older)) w fun e u' w' =>
   e=.returned (.tuple #[])/\u'=.panicking ({ v:=.iface 150 (.agg #[.int .i64 x]),recovered:=true }::older)/\w'.cell? ⟨b0,0,none⟩=some (.slice none 0 0)/\w'.cell? ⟨b1,0,none⟩=some (.int .i64 x)/\w'.cell? ⟨b2,0,none⟩=some (errV 5)/\Below b0 w w':=by
 have n01:b0≠b1:=by omega
 have n02:b0≠b2:=by omega
 have n12:b1≠b2:=by omega
 have c0:w.cell? ⟨b0,0,none⟩=some vo:=by rw [Lib.cell_of_heap h0];rfl
 have c1:w.cell? ⟨b1,0,none⟩=some vp:=by rw [Lib.cell_of_heap h1];rfl
 have c2:w.cell? ⟨b2,0,none⟩=some ve:=by rw [Lib.cell_of_heap h2];rfl
 have f0:=Lib.frozen_of_heap h0 0
 have f1:=Lib.frozen_of_heap h1 0
 have f2:=Lib.frozen_of_heap h2 0
 have hta:∀ (xt:TypeId) (w':World),(Instr.typeAssert (.iface 150 (.agg #[.int .i64 x])) xt 150 true).run Tryz.prog w'=.ok (.tuple #[.agg #[.int .i64 x],.bool true]) w':=fun xt w'=>by
  simp [Instr.typeAssert,run_underlying Tryz.underlying150]
 refine callsD_of_wpS Tryz.func78 rfl fun c₀ cs hu=>?_
 apply wpS_seq
 apply wpS_region
 simp [wpOpsS,go_sem,recoverD,hu,Tryz.ntmps78,Exit.thenS,hta,Array.replicate]
 refine wpS_of_wp ?_
 have a0:(w.alloc (.cells #[.int .i64 x] 150)).cell? ⟨b0,0,none⟩=some vo:=(World.cell?_of_block (Below.heap_alloc _ _ _ (Array.getElem?_eq_some_iff.1 h0).1)).trans c0
 have a1:(w.alloc (.cells #[.int .i64 x] 150)).cell? ⟨b1,0,none⟩=some vp:=(World.cell?_of_block (Below.heap_alloc _ _ _ (Array.getElem?_eq_some_iff.1 h1).1)).trans c1
 have a2:(w.alloc (.cells #[.int .i64 x] 150)).cell? ⟨b2,0,none⟩=some ve:=(World.cell?_of_block (Below.heap_alloc _ _ _ (Array.getElem?_eq_some_iff.1 h2).1)).trans c2
 have a3:(w.alloc (.cells #[.int .i64 x] 150)).frozen? ⟨b0,0,none⟩=false:=(World.frozen?_of_block (Below.heap_alloc _ _ _ (Array.getElem?_eq_some_iff.1 h0).1)).trans f0
 have a4:(w.alloc (.cells #[.int .i64 x] 150)).frozen? ⟨b1,0,none⟩=false:=(World.frozen?_of_block (Below.heap_alloc _ _ _ (Array.getElem?_eq_some_iff.1 h1).1)).trans f1
 have a5:(w.alloc (.cells #[.int .i64 x] 150)).frozen? ⟨b2,0,none⟩=false:=(World.frozen?_of_block (Below.heap_alloc _ _ _ (Array.getElem?_eq_some_iff.1 h2).1)).trans f2
 have a6:(w.alloc (.cells #[.int .i64 x] 150)).cell? ⟨w.heap.size,0,none⟩=some (.int .i64 x):=by rw [Lib.cell_of_heap (heap_new rfl)];rfl
 have hz:Below b0 w (w.alloc (.cells #[.int .i64 x] 150)):=(Below.refl _ _).alloc (Nat.le_of_lt (Array.getElem?_eq_some_iff.1 h0).1) _
 have HL1:=hd_ l01
 have HL2:=hd_ l12
 clear l01 l12
 refine ps_named (fun w5=>w5.cell? ⟨b0,0,none⟩=some vo/\w5.cell? ⟨b1,0,none⟩=some vp/\w5.cell? ⟨b2,0,none⟩=some ve/\w5.frozen? ⟨b0,0,none⟩=false/\w5.frozen? ⟨b1,0,none⟩=false/\w5.frozen? ⟨b2,0,none⟩=false/\w5.cell? ⟨w.heap.size,0,none⟩=some (.int .i64 x)/\Below b0 w w5) ⟨a0,a1,a2,a3,a4,a5,a6,hz⟩ ?_
 clear a0 a1 a2 a3 a4 a5 a6 hz
 rintro w5 ⟨a0,a1,a2,a3,a4,a5,a6,hz⟩
 have HZ:=hd_ hz
 clear hz
 have s0:=(Array.getElem?_eq_some_iff.1 h0).1
 have s1:=(Array.getElem?_eq_some_iff.1 h1).1
 have s2:=(Array.getElem?_eq_some_iff.1 h2).1
 have n3:b0≠w.heap.size:=Nat.ne_of_lt s0
 have n4:b1≠w.heap.size:=Nat.ne_of_lt s1
 have n5:b2≠w.heap.size:=Nat.ne_of_lt s2
 clear h0 h1 h2 c0 c1 c2 f0 f1 f2
 go_upto_region 2 with fail
 go_region
 go_wp2
 have m01:=n01.symm
 have m02:=n02.symm
 have m12:=n12.symm
 refine ⟨rfl,_,rfl,.tuple #[],by simp [results,Tryz.results78,go_sem],rfl,rfl, ?_, ?_, ?_, ?_⟩
 ·simp [go_sem, *]
 ·simp [go_sem, *]
 ·simp [go_sem,errV, *]
 ·have l01:=HL1.out
  have l12:=HL2.out
  repeat (first|exact HZ.out|refine Below.drew ?_|refine Below.setCell ?_ (by simp only;omega) _)
theorem stop_info:(Tryz.prog.info? 150).map (fun i=>(i.zero,i.size,i.bytes))=some (some (.agg #[.int .i64 0]),1,8):=by kernel_rfl
theorem pcatch_idle (p0 p1 p2:Value) (w:World) :
  CallsD Tryz.prog 78 #[p0,p1,p2] .returning w fun e u' w'=>e=.returned (.tuple #[])/\u'=.returning/\Below w.heap.size w w':=by
 obtain ⟨i0,hi0,hz0,hz1,hz2⟩:=info_parts stop_info
 have hta:∀ (xt:TypeId) (w':World),(Instr.typeAssert .nilIface xt 150 true).run Tryz.prog w'=.ok (.tuple #[.agg #[.int .i64 0],.bool false]) w':=fun xt w'=>by
  simp [Instr.typeAssert,run_underlying Tryz.underlying150,zeroValue,typeInfo,hi0,hz0,go_sem]
 refine callsD_of_wpS Tryz.func78 rfl fun c₀ cs hu=>?_
 apply wpS_seq
 apply wpS_region
 simp [wpOpsS,go_sem,recoverD,hu,Tryz.ntmps78,Exit.thenS,hta,Array.replicate]
 refine wpS_of_wp ?_
 go_wp2
 cases c₀
 refine ⟨rfl,.returning,by simp_all,.tuple #[],by simp [results,Tryz.results78,go_sem],rfl,rfl,(Below.refl _ _).alloc (Nat.le_refl _) _⟩
theorem rowT_info:(Tryz.prog.info? 59).map (fun i=>(i.zero,i.size,i.bytes))=some (some (.slice none 0 0),1,24):=by kernel_rfl
theorem NdF.keep {lo:Nat} {w w':World} {A:Option Addr} {l:List Nd} {row:Option Nat} (h:NdF lo w A l) (hg:w.grownBy w' row) (hr:∀ ad,A=some ad->row≠some ad.block):NdF lo w' A l:=by
 obtain ⟨⟨⟨h1,h2⟩,h3,h4⟩,h5⟩:=h
 refine ⟨⟨⟨h1,fun hn=>?_⟩,h3,h4⟩,h5⟩
 obtain ⟨b,off,rfl,hb,hc⟩:=h2 hn
 refine ⟨b,off,rfl,Nat.lt_of_lt_of_le hb hg.size,fun j u hu=>?_⟩
 exact (World.cell?_of_block (w:=w) (a:=⟨b,off+j,none⟩) (hg.block b hb (fun e=>hr _ rfl e.symm))).trans (hc j u hu)
theorem NdF.block {lo:Nat} {w:World} {A:Option Addr} {l:List Nd} (h:NdF lo w A l) (h0:0<l.length):∃ b off,A=some ⟨b,off,none⟩/\lo<=b/\b<w.heap.size:=by
 obtain ⟨⟨⟨h1,h2⟩,h3,h4⟩,h5⟩:=h
 obtain ⟨b,off,rfl,hb,hc⟩:=h2 h0
 exact ⟨b,off,rfl,h5 _ rfl,hb⟩
structure RowP (w:World) (lo:Nat) (row:Option Nat) (vs:List Value) (l:List (List Nd)):Prop where
 len:vs.length=l.length
 els:∀ (j:Nat) (v:Value),vs[j]?=some v->∃ (Aj:Option Addr) (cj:Nat) (u:List Nd),l[j]?=some u/\v=.slice Aj u.length cj/\NdF lo w Aj u/\(∀ ad,Aj=some ad->row≠some ad.block)/\Short u/\0<u.length
theorem RowP.grow {w w':World} {lo:Nat} {row row':Option Nat} {vs:List Value} {l:List (List Nd)} (h:RowP w lo row vs l) (hg:w.grownBy w' row') (hr:∀ k,row'=some k->k<lo):RowP w' lo row vs l :=
 ⟨h.len,fun j v hv=>let ⟨Aj,cj,u,h1,h2,h3,h4,h5,h6⟩:=h.els j v hv;⟨Aj,cj,u,h1,h2,h3.grow hg hr,h4,h5,h6⟩⟩
theorem RowP.app {w w':World} {lo lo2 c:Nat} {v v':Value} {A:Option Addr} {u:List Nd} {vs:List Value} {l:List (List Nd)} (h:RowP w lo v.ownBlock vs l) (hg:w.grownBy w' v.ownBlock) (hat:v'.ownBlock=v.ownBlock∨v'.ownBlock=some w.heap.size)
  (hA:NdF lo2 w A u) (hlo:lo<=lo2) (hk:∀ k,v.ownBlock=some k->k<lo2) (hs:Short u) (hu:0<u.length):RowP w' lo v'.ownBlock (vs++[.slice A u.length c]) (l++[u]):=by
 have hnew:∀ (B:Option Addr) (x:List Nd),NdF lo w B x->0<x.length->(∀ ad,B=some ad->v.ownBlock≠some ad.block)->∀ ad,B=some ad->v'.ownBlock≠some ad.block:=by
  intro B x hB h0 hn ad e
  obtain ⟨b,off,e2,hb1,hb2⟩:=hB.block h0
  rw [e2] at e
  cases e
  rcases hat with hat|hat
  ·rw [hat];exact hn _ e2
  ·rw [hat]
   intro e3
   injection e3 with e3
   simp only at e3
   omega
 have hA':∀ ad,A=some ad->v.ownBlock≠some ad.block:=fun ad e e2=>by
  have h1:=hk _ e2
  have h2:=hA.2 ad e
  omega
 refine ⟨by simp [h.len],fun j v2 hv=>?_⟩
 rcases Nat.lt_trichotomy j vs.length with hj|hj|hj
 ·rw [List.getElem?_append_left hj] at hv
  obtain ⟨Aj,cj,x,h1,h2,h3,h4,h5,h6⟩:=h.els j v2 hv
  exact ⟨Aj,cj,x,by rw [List.getElem?_append_left (by rw [← h.len];exact hj)];exact h1,h2,h3.keep hg h4,hnew Aj x h3 h6 h4,h5,h6⟩
 ·subst hj
  rw [List.getElem?_append_right (Nat.le_refl _),Nat.sub_self] at hv
  simp only [List.getElem?_cons_zero,Option.some.injEq] at hv
  subst hv
  exact ⟨A,c,u,by rw [h.len,List.getElem?_append_right (Nat.le_refl _),Nat.sub_self];rfl,rfl,(hA.less hlo).keep hg hA',hnew A u (hA.less hlo) hu hA',hs,hu⟩
 ·rw [List.getElem?_append_right (by omega)] at hv
  rw [List.getElem?_eq_none (by simp;omega)] at hv
  cases hv
structure PgSt (g:Nat) (W:Option Addr) (cw:Nat) (ws:List ByteArray) (P:Option Addr) (cp:Nat) (ps:List Nat) (w0:World) (out:List (List Nd)) (k:Nat) (v:Value) (vs:List Value) (w:World):Prop where
 st:PsSt g W cw ws P cp ps k w
 row:w0.grownBy w (some g)
 big:w0.heap.size+3<=w.heap.size
 lt:g<w0.heap.size
 h0:w.heap[w0.heap.size]?=some (.cells #[v] 31 (0,0))
 h1:w.heap[w0.heap.size+1]?=some (.cells #[.int .i64 0] 3 (0,0))
 h2:w.heap[w0.heap.size+2]?=some (.cells #[.nilIface] 27 (0,0))
 own:w.ownsRow (w0.heap.size+3) 59 1 v out.length vs
 els:RowP w (w0.heap.size+3) v.ownBlock vs out
section
variable {g cw cp k k':Nat} {W P:Option Addr} {ws:List ByteArray} {ps:List Nat} {w0 w w':World} {out:List (List Nd)} {v:Value} {vs:List Value}
theorem PgSt.past (h:PgSt g W cw ws P cp ps w0 out k v vs w) (hb:Below w.heap.size w w'):PgSt g W cw ws P cp ps w0 out k v vs w':=by
 have hbig:=h.big
 exact ⟨h.st.past hb,grown_below h.row hb,Nat.le_trans h.big hb.size,h.lt,(hb.block _ (by omega)).trans h.h0,(hb.block _ (by omega)).trans h.h1,(hb.block _ (by omega)).trans h.h2,own_below h.own hb,h.els.grow (grown_of_below hb) (fun _ e=>by cases e)⟩
theorem PgSt.call (h:PgSt g W cw ws P cp ps w0 out k v vs w) (hs:PsSt g W cw ws P cp ps k' w') (hg:w.grownBy w' (some g)):PgSt g W cw ws P cp ps w0 out k' v vs w':=by
 have hbig:=h.big
 have hlt:=h.lt
 exact ⟨hs,grown_trans h.row hg,Nat.le_trans h.big hg.size,h.lt,(hg.block _ (by omega) (by simp;omega)).trans h.h0,(hg.block _ (by omega) (by simp;omega)).trans h.h1,(hg.block _ (by omega) (by simp;omega)).trans h.h2,own_past h.own hg (by omega),h.els.grow hg (fun k e=>by cases e;omega)⟩
theorem PgSt.cell (h:PgSt g W cw ws P cp ps w0 out k v vs w):w.cell? ⟨w0.heap.size,0,none⟩=some v/\w.frozen? ⟨w0.heap.size,0,none⟩=false:=⟨by rw [Lib.cell_of_heap h.h0];rfl,Lib.frozen_of_heap h.h0 0⟩
theorem PgSt.cells (h:PgSt g W cw ws P cp ps w0 out k v vs w):w.cell? ⟨w0.heap.size+1,0,none⟩=some (.int .i64 0)/\w.frozen? ⟨w0.heap.size+1,0,none⟩=false/\w.cell? ⟨w0.heap.size+2,0,none⟩=some .nilIface/\w.frozen? ⟨w0.heap.size+2,0,none⟩=false:=⟨by rw [Lib.cell_of_heap h.h1];rfl,Lib.frozen_of_heap h.h1 0,by rw [Lib.cell_of_heap h.h2];rfl,Lib.frozen_of_heap h.h2 0⟩
theorem PgSt.app {lo c:Nat} {A:Option Addr} {u:List Nd} {v':Value} (h:PgSt g W cw ws P cp ps w0 out k v vs w) (hA:NdF lo w A u) (hlo:w0.heap.size+3<=lo) (hk:∀ k,v.ownBlock=some k->k<lo) (hs:Short u) (hu:0<u.length)
  (ho:w'.ownsRow (w0.heap.size+3) 59 1 v' (out.length+1) (vs++[.slice A u.length c])) (hg:w.grownBy w' v.ownBlock) (hat:v'.ownBlock=v.ownBlock∨v'.ownBlock=some w.heap.size) :
  w'.cell? ⟨w0.heap.size,0,none⟩=some v/\w'.frozen? ⟨w0.heap.size,0,none⟩=false/\PgSt g W cw ws P cp ps w0 (out++[u]) k v' (vs++[.slice A u.length c]) (w'.setCell ⟨w0.heap.size,0,none⟩ v'):=by
 have hbig:=h.big
 have hlt:=h.lt
 have hB:Below (w0.heap.size+3) w w':=below_app (Below.refl _ _) h.own hg (by omega) (Nat.le_refl _)
 have b0:=(hB.block w0.heap.size (by omega)).trans h.h0
 have b1:=(hB.block (w0.heap.size+1) (by omega)).trans h.h1
 have b2:=(hB.block (w0.heap.size+2) (by omega)).trans h.h2
 have hS:Below w0.heap.size w' (w'.setCell ⟨w0.heap.size,0,none⟩ v'):=(Below.refl _ _).setCell (p:=⟨w0.heap.size,0,none⟩) (Nat.le_refl _) _
 have hgS:w'.grownBy (w'.setCell ⟨w0.heap.size,0,none⟩ v') (some w0.heap.size):=ps_grown _ _ _ _
 refine ⟨by rw [Lib.cell_of_heap b0];rfl,Lib.frozen_of_heap b0 0,(h.st.under hB (by omega)).under hS (by omega),grown_under (grown_under h.row hB (by omega)) hS (Nat.le_refl _), ?_,h.lt, ?_, ?_, ?_, ?_, ?_⟩
 ·exact Nat.le_trans (Nat.le_trans h.big hB.size) hS.size
 ·simp [World.setCell,Array.getElem?_modify,b0]
 ·exact (Below.heap_setCell _ _ _ _ (by simp only;omega)).trans b1
 ·exact (Below.heap_setCell _ _ _ _ (by simp only;omega)).trans b2
 ·rw [List.length_append]
  exact own_past ho hgS (by omega)
 ·exact (h.els.app hg hat hA hlo hk hs hu).grow hgS (fun k e=>by cases e;omega)
theorem PgSt.lows (h:PgSt g W cw ws P cp ps w0 out k v vs w):∀ k,v.ownBlock=some k->k<w.heap.size:=fun k e=>(h.own.lt k e).2
structure PgDead (g:Nat) (w0:World) (v:Value) (w:World):Prop where
 row:w0.grownBy w (some g)
 big:w0.heap.size+3<=w.heap.size
 lt:g<w0.heap.size
 h0:w.heap[w0.heap.size]?=some (.cells #[v] 31 (0,0))
 h1:w.heap[w0.heap.size+1]?=some (.cells #[.int .i64 0] 3 (0,0))
 h2:w.heap[w0.heap.size+2]?=some (.cells #[.nilIface] 27 (0,0))
theorem PgSt.dead (h:PgSt g W cw ws P cp ps w0 out k v vs w) (hg:w.grownBy w' (some g)):PgDead g w0 v w':=by
 have hbig:=h.big
 have hlt:=h.lt
 exact ⟨grown_trans h.row hg,Nat.le_trans h.big hg.size,h.lt,(hg.block _ (by omega) (by simp;omega)).trans h.h0,(hg.block _ (by omega) (by simp;omega)).trans h.h1,(hg.block _ (by omega) (by simp;omega)).trans h.h2⟩
theorem set_block {w:World} {b:Nat} {u v:Value} {e:TypeId} (h:w.heap[b]?=some (.cells #[u] e (0,0))):(w.setCell ⟨b,0,none⟩ v).heap[b]?=some (.cells #[v] e (0,0)):=by simp [World.setCell,Array.getElem?_modify,h]
theorem PgSt.done {n:Nat} {w9:World} (h:PgSt g W cw ws P cp ps w0 out k v vs w) (hB:Below ((((w.drewN n).setCell ⟨w0.heap.size,0,none⟩ v).setCell ⟨w0.heap.size+1,0,none⟩ (.int .i64 0)).setCell ⟨w0.heap.size+1+1,0,none⟩ .nilIface).heap.size ((((w.drewN n).setCell ⟨w0.heap.size,0,none⟩ v).setCell ⟨w0.heap.size+1,0,none⟩ (.int .i64 0)).setCell ⟨w0.heap.size+1+1,0,none⟩ .nilIface) w9) :
  w9.cell? ⟨w0.heap.size,0,none⟩=some v/\w9.cell? ⟨w0.heap.size+1,0,none⟩=some (.int .i64 0)/\w9.cell? ⟨w0.heap.size+1+1,0,none⟩=some .nilIface/\w9.ownsRow (w0.heap.size+3) 59 1 v out.length vs/\RowP w9 (w0.heap.size+3) v.ownBlock vs out/\w0.grownBy w9 (some g):=by
 have hd:=h.past (below_drewN (Below.refl _ _) n)
 have hbig:=hd.big
 generalize w.drewN n=wd at *
 have k0:(wd.setCell ⟨w0.heap.size,0,none⟩ v).heap[w0.heap.size]?=some (.cells #[v] 31 (0,0)):=set_block hd.h0
 have k1:((wd.setCell ⟨w0.heap.size,0,none⟩ v).setCell ⟨w0.heap.size+1,0,none⟩ (.int .i64 0)).heap[w0.heap.size+1]?=some (.cells #[.int .i64 0] 3 (0,0)):=set_block ((Below.heap_setCell _ _ _ _ (by simp)).trans hd.h1)
 have k2:(((wd.setCell ⟨w0.heap.size,0,none⟩ v).setCell ⟨w0.heap.size+1,0,none⟩ (.int .i64 0)).setCell ⟨w0.heap.size+1+1,0,none⟩ .nilIface).heap[w0.heap.size+1+1]?=some (.cells #[.nilIface] 27 (0,0)):=set_block ((Below.heap_setCell _ _ _ _ (by simp)).trans ((Below.heap_setCell _ _ _ _ (by simp only;omega)).trans hd.h2))
 have g1:wd.grownBy (wd.setCell ⟨w0.heap.size,0,none⟩ v) (some w0.heap.size):=ps_grown _ _ _ _
 have g2:(wd.setCell ⟨w0.heap.size,0,none⟩ v).grownBy ((wd.setCell ⟨w0.heap.size,0,none⟩ v).setCell ⟨w0.heap.size+1,0,none⟩ (.int .i64 0)) (some (w0.heap.size+1)):=ps_grown _ _ _ _
 have g3:((wd.setCell ⟨w0.heap.size,0,none⟩ v).setCell ⟨w0.heap.size+1,0,none⟩ (.int .i64 0)).grownBy (((wd.setCell ⟨w0.heap.size,0,none⟩ v).setCell ⟨w0.heap.size+1,0,none⟩ (.int .i64 0)).setCell ⟨w0.heap.size+1+1,0,none⟩ .nilIface) (some (w0.heap.size+1+1)):=ps_grown _ _ _ _
 have b1:Below w0.heap.size wd (wd.setCell ⟨w0.heap.size,0,none⟩ v):=(Below.refl _ _).setCell (p:=⟨w0.heap.size,0,none⟩) (Nat.le_refl _) _
 have b2:Below w0.heap.size wd ((wd.setCell ⟨w0.heap.size,0,none⟩ v).setCell ⟨w0.heap.size+1,0,none⟩ (.int .i64 0)):=b1.setCell (p:=⟨w0.heap.size+1,0,none⟩) (by simp) _
 have b3:=b2.setCell (p:=⟨w0.heap.size+1+1,0,none⟩) (by simp only;omega) Value.nilIface
 generalize wd.setCell ⟨w0.heap.size,0,none⟩ v=wa at *
 generalize wa.setCell ⟨w0.heap.size+1,0,none⟩ (.int .i64 0)=wb at *
 generalize wb.setCell ⟨w0.heap.size+1+1,0,none⟩ .nilIface=wc at *
 have s1:=g1.size
 have s2:=g2.size
 have s3:=g3.size
 have ow:=own_below (own_past (own_past (own_past hd.own g1 (by omega)) g2 (by omega)) g3 (by omega)) hB
 have el:=(((hd.els.grow g1 (fun k e=>by cases e;omega)).grow g2 (fun k e=>by cases e;omega)).grow g3 (fun k e=>by cases e;omega)).grow (grown_of_below hB) (fun _ e=>by cases e)
 have m0:=(hB.block w0.heap.size (by omega)).trans ((g3.block _ (by omega) (by simp;omega)).trans ((g2.block _ (by omega) (by simp)).trans k0))
 have m1:=(hB.block (w0.heap.size+1) (by omega)).trans ((g3.block _ (by omega) (by simp)).trans k1)
 have m2:=(hB.block (w0.heap.size+1+1) (by omega)).trans k2
 refine ⟨by rw [Lib.cell_of_heap m0];rfl,by rw [Lib.cell_of_heap m1];rfl,by rw [Lib.cell_of_heap m2];rfl,ow,el,grown_below (grown_under hd.row b3 (Nat.le_refl _)) hB⟩
end
def PgTo (g:Nat) (ps:List Nat) (r:Except Nat (List (List Nd))) (w:World) (e:Ending) (w':World):Prop :=
 match r with
 | .ok l=>∃ (A:Option Addr) (c:Nat) (vs:List Value),e=.returned (.tuple #[.slice A l.length c,.int .i64 0,.nilIface])/\w'.ownsRow w.heap.size 59 1 (.slice A l.length c) l.length vs/\RowP w' w.heap.size (Value.slice A l.length c).ownBlock vs l/\l.length<=60000/\w.grownBy w' (some g)
 | .error x=>e=.returned (.tuple #[.slice none 0 0,.int .i64 (ps.getD x 0:Nat),errV 5])/\w.grownBy w' (some g)
theorem PgSt.start {g cw cp:Nat} {W P:Option Addr} {ws:List ByteArray} {ps:List Nat} {w:World} (hs:PsSt g W cw ws P cp ps 0 w) :
  PgSt g W cw ws P cp ps w [] 0 (.slice none 0 0) [] (((w.alloc (.cells #[.slice none 0 0] 31)).alloc (.cells #[.int .i64 0] 3)).alloc (.cells #[.nilIface] 27)):=by
 have hlt:=hs.lt
 have hb:Below w.heap.size w (((w.alloc (.cells #[.slice none 0 0] 31)).alloc (.cells #[.int .i64 0] 3)).alloc (.cells #[.nilIface] 27)):=((((Below.refl _ _).alloc (Nat.le_refl _) _).alloc (by simp) _).alloc (by simp;omega) _)
 refine ⟨hs.past hb,ps_row _ hb,by simp,hlt, ?_, ?_, ?_,World.ownsRow_nil _ _ _ _,⟨rfl,fun j v hv=>by simp at hv⟩⟩
 ·rw [Below.heap_alloc _ _ _ (by simp;omega),Below.heap_alloc _ _ _ (by simp)]
  exact heap_new rfl
 ·rw [Below.heap_alloc _ _ _ (by simp)]
  exact heap_new (by simp)
 ·exact heap_new (by simp)
theorem own_lower {w:World} {B B':Nat} {e:TypeId} {sz n:Nat} {v:Value} {xs:List Value} (h:w.ownsRow B e sz v n xs) (hb:B'<=B):w.ownsRow B' e sz v n xs:=by
 refine ⟨h.1, ?_⟩
 rcases h.2 with h2|⟨g,cap,cur,h1,h2,h3⟩
 ·exact .inl h2
 ·exact .inr ⟨g,cap,cur,h1,by omega,h3⟩
theorem rq66 {P:Prop} (h:P:=by
 all_goals refine NoPanic.normal ?_
 all_goals (refine ⟨?_, ?_⟩;(focus ((repeat apply Exists.intro);refine ⟨?_,rfl⟩;exact ⟨out++[u],k2,j,_,_,hgo.2,by omega,by rw [List.length_append];simp;omega,HF,HRES⟩));(rw [psNext_at HF.out.st,psNext_at HG0.out.st];omega))):P:=h
theorem program_any {g cw cp:Nat} {W P:Option Addr} {ws:List ByteArray} {ps:List Nat} (hdg:DgW ws) (hwb:WdB ws) (w:World) (hs:PsSt g W cw ws P cp ps 0 w) :
  Calls Tryz.prog 43 #[.pointer (some ⟨g,0,none⟩)] w (PgTo g ps (progP ws ws.length [] 0) w):=by
 obtain ⟨i0,hi0,hz0,hz1,hz2⟩:=info_parts rowT_info
 obtain ⟨R,hR⟩:∃ R,R=progP ws ws.length [] 0:=⟨_,rfl⟩
 rw [← hR]
 have hf:=hs.few
 have hgl:=hs.lt
 have HS:=hd_ hs
 have HR:=hd_ hR
 have HWB:=hd_ hwb
 have HPK:=hd_ (fun k' w' (h:PsSt g W cw ws P cp ps k' w') hk=>peek_any w' h hk)
 have HNO:=hd_ (fun k' w' (h:PsSt g W cw ws P cp ps k' w') hk=>pnote_any hwb w' h hk)
 have HST:=hd_ (fun k' w' (h:PsSt g W cw ws P cp ps k' w') hk=>pstmt_any hdg w' h hk)
 clear hs hR hdg hwb
 have hmf:∀ (fn:Fn) (first cap:Array Value) (w:World),(Instr.makeFunc fn first cap).run Tryz.prog w=.ok (.func fn first cap) w:=fun _ _ _ _=>rfl
 go_enter_defers Tryz.func43,Tryz.ntmps43
 go_wp2
 go_loopw [] (fun wr=>∃ (out:List (List Nd)) (k j:Nat) (v:Value) (vs:List Value),k<=ws.length/\ws.length<=k+j/\out.length<=k/\Hid (PgSt g W cw ws P cp ps w out k v vs wr)/\Hid (R=progP ws j out k)) (fun wr=>60001-psNext wr g)
 case atStart=>exact ⟨[],0,ws.length,.slice none 0 0,[],Nat.zero_le _,by omega,Nat.le_refl _,hd_ (PgSt.start HS.out),HR⟩
 case round =>
  obtain ⟨out,k,j,v,vs,hk,hj,hol,HG,HRR⟩:=hrel
  obtain ⟨A,c,rfl⟩:=own_slice HG.out.own
  have HG0:=HG
  obtain ⟨p0,p1,p2,f2⟩:=HG.out.st.cells
  obtain ⟨o0,of0⟩:=HG.out.cell
  obtain ⟨o1,of1,o2,of2⟩:=HG.out.cells
  rw [show w.heap.size+2=w.heap.size+1+1 from rfl] at o2 of2
  by_cases hlt:k<ws.length
  ·have q2:decide ((k:Int)<(ws.length:Int))=true:=decide_eq_true (by omega)
   have HP:=hd_ (fun w' h=>HPK.out k w' h hk)
   have HHP:=hd_ (fun (W':World)=>Tryz.strings_HasPrefix (wdAt ws k) ⟨#[35]⟩ W')
   have HHP2:Hid (∀ W',Calls Tryz.prog 79 #[.string (wdAt ws k),.string ⟨#[35]⟩] W' fun e w'=>e=.returned (.bool (hashW (wdAt ws k)))/\w'=W'):=hd_ (fun W'=>HHP.out W')
   obtain ⟨j,rfl⟩:∃ j',j=j'+1:=⟨j-1,by omega⟩
   cases hh:hashW (wdAt ws k) with
   | true =>
    rw [hh] at HHP2
    have hgo:=note_goes hh
    have hsh0:Short (noteP ws k).1:=fun d hd=>by have:=noteP_b HWB.out hf k d hd;omega
    have hu00:0<(noteP ws k).1.length:=by simp [noteP]
    have HRES:=hd_ (HRR.out.trans (progP_note hh))
    have HQ:=hd_ (fun w' h=>HNO.out k w' h hk)
    generalize noteP ws k=r at *
    obtain ⟨u,k2⟩:=r
    have hsh:Short u:=hsh0
    have hu0:0<u.length:=hu00
    have hgo:k<k2/\k2<=ws.length:=hgo
    clear hsh0 hu00
    generalize wdAt ws k=S at *
    clear HHP hh
    go_wp2
    go_quiet (fail)
    go_wp2_with (first
     | (go_at_call 80;refine (HP.out _ (HG.out.past (below_drewN (Below.refl _ _) _)).st).mono ?_;rintro e w3 ⟨rfl,hB⟩;have HG:=hd_ ((HG.out.past (below_drewN (Below.refl _ _) _)).past hB);obtain ⟨o0,of0⟩:=HG.out.cell;have hbig:=HG.out.big;clear hB)
     | (go_at_call 79;refine (HHP2.out _).mono ?_;rintro e w4 ⟨rfl,rfl⟩))
    refine wp_region_noPanic ?_
    go_region_law (first
     | (go_simp;refine (HQ.out _ (HG.out.past (Below.refl _ _).drew).st).mono ?_;rintro e w8 ⟨A8,c8,rfl,hn8,hs8,hG8⟩;have HC:=hd_ ((HG.out.past (Below.refl _ _).drew).call hs8 hG8);have HN:=hd_ hn8;obtain ⟨o8,of8⟩:=HC.out.cell;have oA:=fun o=>((HC.out.past ((Below.refl _ _).alloc (Nat.le_refl _) o)).cell).1;clear hn8 hs8 hG8;dsimp only)
     | ((refine step_app (P:=Tryz.prog) _ (by rfl) (.tmp 19) (.tmp 22) 31 (by rfl) (w.heap.size+3) 59 i0 (.slice none 0 0) 1 24 Tryz.underlying31 hi0 hz0 hz1 hz2 rfl (by omega) _ out.length vs (by rfl) (own_below HC.out.own ((Below.refl _ _).alloc (Nat.le_refl _) _)) _ (some ⟨w8.heap.size,0,none⟩) 1 1 [.slice A8 u.length c8] (by rfl) (Sl.lit _ #[.slice A8 u.length c8] _ 1 rfl) (by intro z hz;rw [List.mem_singleton.1 hz];rfl) (by simp only [maxLen];omega) (by omega) (by have:=HC.out.big;simp;omega) ?_);intro v9 w9 hown9 hg9 hat9;obtain ⟨A9,c9,hv9⟩:=own_slice hown9;subst hv9;obtain ⟨o9,of9,hp9⟩:=(HC.out.past ((Below.refl _ _).alloc (Nat.le_refl _) _)).app (HN.out.past ((Below.refl _ _).alloc (Nat.le_refl _) _)) hbig HG.out.lows hsh hu0 hown9 hg9 hat9;have HF:=hd_ hp9;clear hown9 hg9 hat9 hp9))
    all_goals exact rq66
   | false =>
    rw [hh] at HHP2
    have hgo:=stmt_goes ws k hk
    cases hp:stmtP ws k with
    | error x =>
     have HRES:=hd_ (HRR.out.trans (progP_bad hlt hh hp))
     have HQ:=hd_ (fun w' h=>HST.out k w' h hk)
     rw [hp] at HQ
     generalize wdAt ws k=S at *
     clear HHP hh hp hgo
     go_wp2
     go_quiet (fail)
     go_wp2_with (first
      | (go_at_call 80;refine (HP.out _ (HG.out.past (below_drewN (Below.refl _ _) _)).st).mono ?_;rintro e w3 ⟨rfl,hB⟩;have HG:=hd_ ((HG.out.past (below_drewN (Below.refl _ _) _)).past hB);obtain ⟨o0,of0⟩:=HG.out.cell;have hbig:=HG.out.big;clear hB)
      | (go_at_call 79;refine (HHP2.out _).mono ?_;rintro e w4 ⟨rfl,rfl⟩))
     first|go_region_dies|fail
     all_goals go_wp2_with (go_at_call 82;refine (HQ.out _ (HG.out.past (Below.refl _ _).drew).st).mono ?_;rintro e w8 ⟨rfl,hG8⟩;have HC:=hd_ ((HG.out.past (Below.refl _ _).drew).dead hG8);clear hG8)
     all_goals
      refine leaves_cons (f:=78) (args:=#[.pointer (some ⟨w.heap.size,0,none⟩),.pointer (some ⟨w.heap.size+1,0,none⟩),.pointer (some ⟨w.heap.size+1+1,0,none⟩)]) (by simp) (by simp [go_sem]) ?_
      refine (pcatch_bad w.heap.size (w.heap.size+1) (w.heap.size+1+1) _ _ _ _ [] w8 HC.out.h0 HC.out.h1 HC.out.h2 (by omega) (by omega)).mono ?_
      rintro e u' w9 ⟨rfl,rfl,c0,c1,c2,hB⟩
      have HG9:=hd_ (grown_under HC.out.row hB (Nat.le_refl _))
      rw [HRES.out]
      clear hB
      simp [Leaves,settle,results,Tryz.results43,go_sem,c0,c1,c2]
      exact ⟨by rw [List.getD_eq_getElem?_getD],HG9.out⟩
    | ok r =>
     obtain ⟨u,k2⟩:=r
     obtain ⟨b1,b2,b3,hu0⟩:=hgo.1 u k2 hp
     have hsh:Short u:=fun d hd=>by have:=stmtP_b HWB.out k u k2 hp d hd;omega
     have hgo:k<k2/\k2<=ws.length:=⟨b1,b2⟩
     have HRES:=hd_ (HRR.out.trans (progP_stmt hlt hh hp))
     have HQ:=hd_ (fun w' h=>HST.out k w' h hk)
     rw [hp] at HQ
     generalize wdAt ws k=S at *
     clear HHP hh hp
     go_wp2
     go_quiet (fail)
     go_wp2_with (first
      | (go_at_call 80;refine (HP.out _ (HG.out.past (below_drewN (Below.refl _ _) _)).st).mono ?_;rintro e w3 ⟨rfl,hB⟩;have HG:=hd_ ((HG.out.past (below_drewN (Below.refl _ _) _)).past hB);obtain ⟨o0,of0⟩:=HG.out.cell;have hbig:=HG.out.big;clear hB)
      | (go_at_call 79;refine (HHP2.out _).mono ?_;rintro e w4 ⟨rfl,rfl⟩))
     refine wp_region_noPanic ?_
     go_region_law (first
     | (go_simp;refine (HQ.out _ (HG.out.past (Below.refl _ _).drew).st).mono ?_;rintro e w8 ⟨A8,c8,rfl,hn8,hs8,hG8⟩;have HC:=hd_ ((HG.out.past (Below.refl _ _).drew).call hs8 hG8);have HN:=hd_ hn8;obtain ⟨o8,of8⟩:=HC.out.cell;have oA:=fun o=>((HC.out.past ((Below.refl _ _).alloc (Nat.le_refl _) o)).cell).1;clear hn8 hs8 hG8;dsimp only)
     | ((refine step_app (P:=Tryz.prog) _ (by rfl) (.tmp 24) (.tmp 27) 31 (by rfl) (w.heap.size+3) 59 i0 (.slice none 0 0) 1 24 Tryz.underlying31 hi0 hz0 hz1 hz2 rfl (by omega) _ out.length vs (by rfl) (own_below HC.out.own ((Below.refl _ _).alloc (Nat.le_refl _) _)) _ (some ⟨w8.heap.size,0,none⟩) 1 1 [.slice A8 u.length c8] (by rfl) (Sl.lit _ #[.slice A8 u.length c8] _ 1 rfl) (by intro z hz;rw [List.mem_singleton.1 hz];rfl) (by simp only [maxLen];omega) (by omega) (by have:=HC.out.big;simp;omega) ?_);intro v9 w9 hown9 hg9 hat9;obtain ⟨A9,c9,hv9⟩:=own_slice hown9;subst hv9;obtain ⟨o9,of9,hp9⟩:=(HC.out.past ((Below.refl _ _).alloc (Nat.le_refl _) _)).app (HN.out.past ((Below.refl _ _).alloc (Nat.le_refl _) _)) hbig HG.out.lows hsh hu0 hown9 hg9 hat9;have HF:=hd_ hp9;clear hown9 hg9 hat9 hp9))
     all_goals exact rq66
  ·have HRES:Hid (R=.ok out):=hd_ (by rw [HRR.out,progP_end (by omega)])
   have q2:decide ((k:Int)<(ws.length:Int))=false:=decide_eq_false (by omega)
   go_wp2
   go_quiet (fail)
   go_wp2
   refine leaves_cons (f:=78) (args:=#[.pointer (some ⟨w.heap.size,0,none⟩),.pointer (some ⟨w.heap.size+1,0,none⟩),.pointer (some ⟨w.heap.size+1+1,0,none⟩)]) (by simp) (by simp [go_sem]) ?_
   refine (pcatch_idle _ _ _ _).mono ?_
   rintro e u' w9 ⟨rfl,rfl,hB⟩
   obtain ⟨c0,c1,c2,ho,he,hg⟩:=HG.out.done hB
   rw [HRES.out]
   clear hB
   simp [Leaves,settle,results,Tryz.results43,go_sem,c0,c1,c2]
   exact ⟨A,c,vs,rfl,own_lower ho (by omega),⟨he.len,fun j v hv=>let ⟨Aj,cj,u,h1,h2,h3,h4,h5,h6⟩:=he.els j v hv;⟨Aj,cj,u,h1,h2,h3.less (by omega),h4,h5,h6⟩⟩,by omega,hg⟩
structure PrgF (lo:Nat) (w:World) (A:Option Addr) (l:List (List Nd)):Prop where
 sl:∃ vs:List Value,Sl w w.heap.size 1 A l.length vs/\∀ (j:Nat) v,vs[j]?=some v->∃ Aj cj u,l[j]?=some u/\v=.slice Aj u.length cj/\NdF lo w Aj u/\Short u
 le:l.length<=maxLen
 far:∀ ad,A=some ad->lo<=ad.block
theorem PrgF.prg {lo:Nat} {w:World} {A:Option Addr} {l:List (List Nd)} (h:PrgF lo w A l):Prg w w.heap.size A l:=by
 obtain ⟨⟨vs,h1,h2⟩,h3,_⟩:=h
 exact ⟨⟨vs,h1,fun j v hv=>let ⟨Aj,cj,u,g1,g2,g3,g4⟩:=h2 j v hv;⟨Aj,cj,u,g1,g2,g3.1,g4⟩⟩,h3⟩
theorem PrgF.grow {lo:Nat} {w w':World} {A:Option Addr} {l:List (List Nd)} {row:Option Nat} (h:PrgF lo w A l) (hg:w.grownBy w' row) (hr:∀ k,row=some k->k<lo):PrgF lo w' A l:=by
 obtain ⟨⟨vs,⟨a1,a2⟩,h2⟩,h3,h4⟩:=h
 refine ⟨⟨vs,⟨a1,fun hn=>?_⟩,fun j v hv=>let ⟨Aj,cj,u,g1,g2,g3,g4⟩:=h2 j v hv;⟨Aj,cj,u,g1,g2,g3.grow hg hr,g4⟩⟩,h3,h4⟩
 obtain ⟨b,off,rfl,hb,hc⟩:=a2 hn
 refine ⟨b,off,rfl,Nat.lt_of_lt_of_le hb hg.size,fun j u hu=>?_⟩
 have hlo:=h4 _ rfl
 exact (World.cell?_of_block (w:=w) (a:=⟨b,off+j,none⟩) (hg.block b hb (fun e=>by have h7:=hr b e.symm;simp only at hlo;omega))).trans (hc j u hu)
theorem PrgF.past {lo:Nat} {w w':World} {A:Option Addr} {l:List (List Nd)} (h:PrgF lo w A l) (hb:Below w.heap.size w w'):PrgF lo w' A l:=h.grow (grown_of_below hb) (fun _ e=>by cases e)
theorem PrgF.less {lo lo':Nat} {w:World} {A:Option Addr} {l:List (List Nd)} (h:PrgF lo w A l) (hl:lo'<=lo):PrgF lo' w A l :=
 ⟨let ⟨vs,h1,h2⟩:=h.sl;⟨vs,h1,fun j v hv=>let ⟨Aj,cj,u,g1,g2,g3,g4⟩:=h2 j v hv;⟨Aj,cj,u,g1,g2,g3.less hl,g4⟩⟩,h.le,fun ad e=>Nat.le_trans hl (h.far ad e)⟩
theorem PrgF.nil_ (lo:Nat) (w:World):PrgF lo w none []:=⟨⟨[],Sl.nil_,fun j v hv=>by simp at hv⟩,Nat.zero_le _,fun _ e=>by cases e⟩
theorem PrgF.of_row {lo c:Nat} {w:World} {A:Option Addr} {vs:List Value} {l:List (List Nd)} (ho:w.ownsRow lo 59 1 (.slice A l.length c) l.length vs) (he:RowP w lo (Value.slice A l.length c).ownBlock vs l) (hl:l.length<=60000):PrgF lo w A l :=
 ⟨⟨vs,.of_own ho,fun j v hv=>let ⟨Aj,cj,u,h1,h2,h3,_,h5,_⟩:=he.els j v hv;⟨Aj,cj,u,h1,h2,h3,h5⟩⟩,by simp only [maxLen];omega,fun ad e=>by subst e;exact (ho.lt ad.block rfl).1⟩
def ParseTo (s:ByteArray) (w:World) (e:Ending) (w':World):Prop :=
 ∃ A c,e=.returned (.tuple #[.slice A (parseF s).2.2.length c,.int .i64 ((parseF s).2.1:Nat),errV (parseF s).1])/\PrgF w.heap.size w' A (parseF s).2.2/\Below w.heap.size w w'
theorem ParseTo.none_ {s:ByteArray} {w w':World} {k:Int} {x:Nat} {v:Value} (h:parseF s=(k,x,[])) (hv:v=errV k) (hb:Below w.heap.size w w'):ParseTo s w (.returned (.tuple #[.slice none 0 0,.int .i64 (x:Nat),v])) w':=by
 unfold ParseTo;rw [h,hv];exact ⟨none,0,rfl,PrgF.nil_ _ _,hb⟩
theorem ParseTo.some_ {s:ByteArray} {w w':World} {A:Option Addr} {c:Nat} {l:List (List Nd)} (h:parseF s=(0,0,l)) (hp:PrgF w.heap.size w' A l) (hb:Below w.heap.size w w'):ParseTo s w (.returned (.tuple #[.slice A l.length c,.int .i64 0,.nilIface])) w':=by
 unfold ParseTo;rw [h];exact ⟨A,c,rfl,hp,hb⟩
theorem wordsB_size (s:ByteArray):(wordsB s).length=(lexWs s).length:=by simp [wordsB,wordBs]
theorem own_apart {w w':World} {e f:TypeId} {u v:Value} {m n:Nat} {xs ys:List Value} {B C:Nat} {sz sz':Nat} (h1:w.ownsRow B e sz u m xs) (h2:w.ownsRow C f sz' v n ys) (hef:e≠f) (hg:w.grownBy w' v.ownBlock):w'.ownsRow B e sz u m xs:=h1.kept hg (rows_apartL h1 h2 hef)
theorem PsSt.made {s:ByteArray} {w1 w9:World} {g B cw c9:Nat} {A P:Option Addr} (hE:(lexE s).1=0) (ho:w9.ownsRow B 9 1 (.slice A (lexWs s).length cw) (lexWs s).length ((wordBs (lexWs s)).map .string))
  (hp:w9.ownsRow B 3 1 (.slice P ((lexWs s).length+1) c9) ((lexWs s).length+1) (placeV (lexWs s)++[.int .i64 (s.size:Nat)])) (hg:w9.heap.size=g)
  (h1:w1=w9.alloc (.cells #[.slice A (lexWs s).length cw,.slice P ((lexWs s).length+1) c9,.int .i64 0] 105)):PsSt g A cw (wordsB s) P c9 (placesN s) 0 w1:=by
 subst h1 hg
 have hsz:=(lexE_parts hE).1
 have hct:=lexWs_count hE
 have hl:(wordsB s).length=(lexWs s).length:=wordsB_size s
 have hl2:(placesN s).length=(lexWs s).length+1:=by rw [placesN_len,hl]
 have hb:Below w9.heap.size w9 (w9.alloc (.cells #[.slice A (lexWs s).length cw,.slice P ((lexWs s).length+1) c9,.int .i64 0] 105)):=(Below.refl _ _).alloc (Nat.le_refl _) _
 have t1:Txs w9 w9.heap.size A (wordBs (lexWs s)):=txs_of ho rfl hct (fun p hp=>(lexWs_len hsz p hp).1)
 refine ⟨?_,⟨t1.1.below hb (Nat.le_refl _),t1.2⟩, ?_,by rw [hl2,hl],by omega⟩
 ·rw [hl,hl2];exact heap_new rfl
 ·rw [hl2]
  have hv:(placesN s).map (fun p=>Value.int .i64 (p:Nat))=placeV (lexWs s)++[.int .i64 (s.size:Nat)]:=by simp [placesN,placeV]
  rw [hv]
  exact (Sl.of_own hp).below hb (Nat.le_refl _)
theorem parse_any (s:ByteArray) (w:World) (hs:s.size<=maxLen) (hm:MaxL w):Calls Tryz.prog 21 #[.string s] w (ParseTo s w):=by
 have hs':=hs
 unfold maxLen at hs'
 have HL:=hd_ (lex_own s w hs)
 have HML:=hd_ hm
 clear hm hs
 by_cases hE:(lexE s).1=0
 ·have HLK:Hid (Calls Tryz.prog 42 #[.string s] w (LexOwn s w)):=hd_ (HL.out.mono fun e w' h=>h.elim (fun h=>absurd hE h.1) (fun h=>h.2))
  have hct:=lexWs_count hE
  have hsz:=(lexE_parts hE).1
  obtain ⟨i0,hi0,hz0,hz1,hz2⟩:=info_parts int_info
  have HE:=hd_ hE
  have NE:Hid ((9:TypeId)≠3):=hd_ (by decide)
  have HMADE:=hd_ (fun (w1 w9:World) (g B cw c9:Nat) (A P:Option Addr)=>PsSt.made (s:=s) (w1:=w1) (w9:=w9) (g:=g) (B:=B) (cw:=cw) (c9:=c9) (A:=A) (P:=P) hE)
  have HPR:=hd_ (fun (g cw cp:Nat) (W P:Option Addr) (w':World) (h:PsSt g W cw (wordsB s) P cp (placesN s) 0 w')=>program_any (wordsB_dgW s) (wordsB_wdB hsz) w' h)
  unfold LexOwn at HLK
  clear hE HL
  generalize hn:(lexWs s).length=n at *
  cases hR:progP (wordsB s) (wordsB s).length [] 0 with
  | error x =>
   rw [hR] at HPR
   have HQ:Hid (∀ (g cw cp:Nat) (W P:Option Addr) (w':World),PsSt g W cw (wordsB s) P cp (placesN s) 0 w'->Calls Tryz.prog 43 #[.pointer (some ⟨g,0,none⟩)] w' fun e w''=>e=.returned (.tuple #[.slice none 0 0,.int .i64 ((placesN s).getD x 0:Nat),.iface 24 (.int .i64 5)])/\w'.grownBy w'' (some g)):=hd_ (fun g cw cp W P w' h=>HPR.out g cw cp W P w' h)
   have HRES:=hd_ (parseF_bad HE.out hR)
   generalize (placesN s).getD x 0=y at *
   clear hR HPR
   go_enter Tryz.func21,Tryz.ntmps21
   go_wp2_with (first
    | (go_at_call 42;refine HLK.out.mono ?_;rintro e w2 ⟨A,c,A2,c2,rfl,-,hp2,hB2,hw2⟩;have HB:=hd_ hB2;have HP:=hd_ hp2;have HW:=hd_ hw2;have hsz2:=hB2.size;clear hB2 hp2 hw2)
    | (at_builtin;refine wpList_app _ rfl (.tmp 22) (.tmp 25) _ rfl w.heap.size 3 i0 (.int .i64 0) 1 8 Tryz.underlying73 hi0 hz0 hz1 hz2 rfl (by decide) _ n _ rfl (own_below HP.out ((Below.refl _ _).alloc (Nat.le_refl _) _)) _ _ 1 1 [.int .i64 (s.size:Nat)] rfl (Sl.lit (sz:=1) _ #[.int .i64 (s.size:Nat)] 3 1 rfl) (by simp [Value.oneCell']) (by simp only [maxLen];omega) (by omega) (by simp;omega) ?_;intro v4 w4 hown4 hg4 hat4;clear hat4;obtain ⟨A4,c4,hv4⟩:=own_slice hown4;subst hv4;have HO4:=hd_ hown4;have HB4:=hd_ (below_app (HB.out.alloc (by omega) _) (own_below HP.out ((Below.refl _ _).alloc (Nat.le_refl _) _)) hg4 (by simp;omega) (Nat.le_refl _));have hsz4:=HB4.out.size;have hba:Below w2.heap.size w2 (w2.alloc (.cells #[.int .i64 (s.size:Nat)] 3)):=(Below.refl _ _).alloc (Nat.le_refl _) _;have HW4:=hd_ (own_apart (own_below HW.out hba) (own_below HP.out hba) NE.out hg4);clear hown4 hg4)
    | (go_at_call 43;refine (HQ.out _ _ _ _ _ _ (HMADE.out _ _ _ _ _ _ _ _ HW4.out HO4.out rfl rfl)).mono ?_;rintro e w5 ⟨rfl,hg5⟩;have HB5:=hd_ (Below.grown (HB4.out.alloc (by omega) _) hg5 (by simp;omega) (fun k e=>by cases e;omega));clear hg5))
   refine bodyPost_ret (v:=.tuple #[.slice none 0 0,.int .i64 (y:Nat),.iface 24 (.int .i64 5)]) (by simp [results,Tryz.results21,go_sem]) rfl ?_
   exact ParseTo.none_ HRES.out rfl HB5.out
  | ok l =>
   rw [hR] at HPR
   have HQ:Hid (∀ (g cw cp:Nat) (W P:Option Addr) (w':World),PsSt g W cw (wordsB s) P cp (placesN s) 0 w'->Calls Tryz.prog 43 #[.pointer (some ⟨g,0,none⟩)] w' fun e w''=>∃ (A:Option Addr) (c:Nat) (vs:List Value),e=.returned (.tuple #[.slice A l.length c,.int .i64 0,.nilIface])/\w''.ownsRow w'.heap.size 59 1 (.slice A l.length c) l.length vs/\RowP w'' w'.heap.size (Value.slice A l.length c).ownBlock vs l/\l.length<=60000/\w'.grownBy w'' (some g)):=hd_ (fun g cw cp W P w' h=>HPR.out g cw cp W P w' h)
   have HALL:=hd_ (fun A c w' (h:PrgF w.heap.size w' A l) hm=>all_any l A c w' h.prg hm)
   by_cases hq:(progF l).2=0
   ·have HRES:=hd_ (parseF_ok HE.out hR hq)
    have HA2:Hid (∀ A c w',PrgF w.heap.size w' A l->MaxL w'->Calls Tryz.prog 44 #[.slice A l.length c] w' fun e w''=>e=.returned (.tuple #[.int .i64 (progF l).1,.nilIface])/\Below w'.heap.size w' w''):=hd_ (fun A c w' h hm=>by have:=HALL.out A c w' h hm;unfold AllTo at this;rwa [hq] at this)
    clear hR HPR hq HALL
    generalize (progF l).1=z at *
    go_enter Tryz.func21,Tryz.ntmps21
    go_wp2_with (first
     | (go_at_call 42;refine HLK.out.mono ?_;rintro e w2 ⟨A,c,A2,c2,rfl,-,hp2,hB2,hw2⟩;have HB:=hd_ hB2;have HP:=hd_ hp2;have HW:=hd_ hw2;have hsz2:=hB2.size;clear hB2 hp2 hw2)
     | (at_builtin;refine wpList_app _ rfl (.tmp 22) (.tmp 25) _ rfl w.heap.size 3 i0 (.int .i64 0) 1 8 Tryz.underlying73 hi0 hz0 hz1 hz2 rfl (by decide) _ n _ rfl (own_below HP.out ((Below.refl _ _).alloc (Nat.le_refl _) _)) _ _ 1 1 [.int .i64 (s.size:Nat)] rfl (Sl.lit (sz:=1) _ #[.int .i64 (s.size:Nat)] 3 1 rfl) (by simp [Value.oneCell']) (by simp only [maxLen];omega) (by omega) (by simp;omega) ?_;intro v4 w4 hown4 hg4 hat4;clear hat4;obtain ⟨A4,c4,hv4⟩:=own_slice hown4;subst hv4;have HO4:=hd_ hown4;have HB4:=hd_ (below_app (HB.out.alloc (by omega) _) (own_below HP.out ((Below.refl _ _).alloc (Nat.le_refl _) _)) hg4 (by simp;omega) (Nat.le_refl _));have hsz4:=HB4.out.size;have hba:Below w2.heap.size w2 (w2.alloc (.cells #[.int .i64 (s.size:Nat)] 3)):=(Below.refl _ _).alloc (Nat.le_refl _) _;have HW4:=hd_ (own_apart (own_below HW.out hba) (own_below HP.out hba) NE.out hg4);clear hown4 hg4)
     | (go_at_call 43;refine (HQ.out _ _ _ _ _ _ (HMADE.out _ _ _ _ _ _ _ _ HW4.out HO4.out rfl rfl)).mono ?_;rintro e w5 ⟨A5,c5,vs5,rfl,ho5,he5,hl5,hg5⟩;have HF5:=hd_ ((PrgF.of_row ho5 he5 hl5).less (show w.heap.size<=_ by simp;omega));have HB5:=hd_ (Below.grown (HB4.out.alloc (by omega) _) hg5 (by simp;omega) (fun k e=>by cases e;omega));have hsz5:=HB5.out.size;clear hg5 ho5 he5)
     | (go_at_call 44;refine (HA2.out _ _ _ HF5.out (HML.out.past HB5.out)).mono ?_;rintro e w6 ⟨rfl,hB6⟩;have HF6:=hd_ (HF5.out.past hB6);have HB6:=hd_ (HB5.out.trans (hB6.mono hsz5));clear hB6))
    refine bodyPost_ret (v:=.tuple #[.slice A5 l.length c5,.int .i64 0,.nilIface]) (by simp [results,Tryz.results21,go_sem]) rfl ?_
    exact ParseTo.some_ HRES.out HF6.out HB6.out
   ·have HRES:=hd_ (parseF_tree HE.out hR hq)
    have HA2:Hid (∀ A c w',PrgF w.heap.size w' A l->MaxL w'->Calls Tryz.prog 44 #[.slice A l.length c] w' fun e w''=>e=.returned (.tuple #[.int .i64 (progF l).1,.iface 24 (.int .i64 (progF l).2)])/\Below w'.heap.size w' w''):=hd_ (fun A c w' h hm=>by have:=HALL.out A c w' h hm;unfold AllTo at this;rwa [← errV_pos hq] at this)
    have HEV:=hd_ (errV_pos hq)
    clear hR HPR hq HALL
    generalize (progF l).1=z at *
    generalize (progF l).2=f at *
    go_enter Tryz.func21,Tryz.ntmps21
    go_wp2_with (first
     | (go_at_call 42;refine HLK.out.mono ?_;rintro e w2 ⟨A,c,A2,c2,rfl,-,hp2,hB2,hw2⟩;have HB:=hd_ hB2;have HP:=hd_ hp2;have HW:=hd_ hw2;have hsz2:=hB2.size;clear hB2 hp2 hw2)
     | (at_builtin;refine wpList_app _ rfl (.tmp 22) (.tmp 25) _ rfl w.heap.size 3 i0 (.int .i64 0) 1 8 Tryz.underlying73 hi0 hz0 hz1 hz2 rfl (by decide) _ n _ rfl (own_below HP.out ((Below.refl _ _).alloc (Nat.le_refl _) _)) _ _ 1 1 [.int .i64 (s.size:Nat)] rfl (Sl.lit (sz:=1) _ #[.int .i64 (s.size:Nat)] 3 1 rfl) (by simp [Value.oneCell']) (by simp only [maxLen];omega) (by omega) (by simp;omega) ?_;intro v4 w4 hown4 hg4 hat4;clear hat4;obtain ⟨A4,c4,hv4⟩:=own_slice hown4;subst hv4;have HO4:=hd_ hown4;have HB4:=hd_ (below_app (HB.out.alloc (by omega) _) (own_below HP.out ((Below.refl _ _).alloc (Nat.le_refl _) _)) hg4 (by simp;omega) (Nat.le_refl _));have hsz4:=HB4.out.size;have hba:Below w2.heap.size w2 (w2.alloc (.cells #[.int .i64 (s.size:Nat)] 3)):=(Below.refl _ _).alloc (Nat.le_refl _) _;have HW4:=hd_ (own_apart (own_below HW.out hba) (own_below HP.out hba) NE.out hg4);clear hown4 hg4)
     | (go_at_call 43;refine (HQ.out _ _ _ _ _ _ (HMADE.out _ _ _ _ _ _ _ _ HW4.out HO4.out rfl rfl)).mono ?_;rintro e w5 ⟨A5,c5,vs5,rfl,ho5,he5,hl5,hg5⟩;have HF5:=hd_ ((PrgF.of_row ho5 he5 hl5).less (show w.heap.size<=_ by simp;omega));have HB5:=hd_ (Below.grown (HB4.out.alloc (by omega) _) hg5 (by simp;omega) (fun k e=>by cases e;omega));have hsz5:=HB5.out.size;clear hg5 ho5 he5)
     | (go_at_call 44;refine (HA2.out _ _ _ HF5.out (HML.out.past HB5.out)).mono ?_;rintro e w6 ⟨rfl,hB6⟩;have HB6:=hd_ (HB5.out.trans (hB6.mono hsz5));clear hB6))
    refine bodyPost_ret (v:=.tuple #[.slice none 0 0,.int .i64 0,.iface 24 (.int .i64 f)]) (by simp [results,Tryz.results21,go_sem]) rfl ?_
    exact ParseTo.none_ HRES.out HEV.out HB6.out
 ·have HLK:Hid (Calls Tryz.prog 42 #[.string s] w fun e w'=>e=.returned (.tuple #[.slice none 0 0,.slice none 0 0,.int .i64 ((lexE s).2:Nat),.iface 24 (.int .i64 (lexE s).1)])/\Below w.heap.size w w'):=hd_ (HL.out.mono fun e w' h=>h.elim (fun h=>by have:=h.2;unfold LexBad at this;rwa [← errV_pos hE] at this) (fun h=>absurd h.1 hE))
  have HRES:=hd_ (parseF_lex hE)
  have HEV:=hd_ (errV_pos hE)
  generalize (lexE s).1=f at *
  generalize (lexE s).2=y at *
  clear hE HL
  go_enter Tryz.func21,Tryz.ntmps21
  go_wp2_with (go_at_call 42;refine HLK.out.mono ?_;rintro e w2 ⟨rfl,hB2⟩;have HB:=hd_ hB2;clear hB2)
  refine bodyPost_ret (v:=.tuple #[.slice none 0 0,.int .i64 (y:Nat),.iface 24 (.int .i64 f)]) (by simp [results,Tryz.results21,go_sem]) rfl ?_
  exact ParseTo.none_ HRES.out HEV.out HB.out
theorem parse_ok {s:ByteArray} (h:(parseF s).1=0) (w:World) (hs:s.size<=maxLen) (hm:MaxL w):Calls Tryz.prog 21 #[.string s] w fun e w'=>∃ A c,e=.returned (.tuple #[.slice A (parseF s).2.2.length c,.int .i64 ((parseF s).2.1:Nat),.nilIface])/\PrgF w.heap.size w' A (parseF s).2.2/\Below w.heap.size w w' :=
 (parse_any s w hs hm).mono fun e w' hh=>by unfold ParseTo at hh;rwa [h] at hh
theorem parse_bad {s:ByteArray} (h:(parseF s).1≠0) (w:World) (hs:s.size<=maxLen) (hm:MaxL w):Calls Tryz.prog 21 #[.string s] w fun e w'=>∃ A c,e=.returned (.tuple #[.slice A (parseF s).2.2.length c,.int .i64 ((parseF s).2.1:Nat),.iface 24 (.int .i64 (parseF s).1)])/\PrgF w.heap.size w' A (parseF s).2.2/\Below w.heap.size w w' :=
 (parse_any s w hs hm).mono fun e w' hh=>by unfold ParseTo at hh;rwa [← errV_pos h] at hh
end Go.Proofs.YtddfdmopaeghnadGreatDoor
namespace Go.Proofs.YtddfdmopaeghnadGreatDoor
theorem parsed_ok {s:ByteArray} (h:(parseF s).1=0):(progF (parseF s).2.2).2=0:=by
 by_cases hE:(lexE s).1=0
 ·cases hp:progP (wordsB s) (wordsB s).length [] 0 with
  | error x=>rw [parseF_bad hE hp] at h;cases h
  | ok l =>
   by_cases hq:(progF l).2=0
   ·rw [parseF_ok hE hp hq];exact hq
   ·rw [parseF_tree hE hp hq] at h;exact absurd h hq
 ·rw [parseF_lex hE] at h;exact absurd h hE
end Go.Proofs.YtddfdmopaeghnadGreatDoor
namespace Go.Proofs.YtddfdmopaeghnadGreatDoor
end Go.Proofs.YtddfdmopaeghnadGreatDoor
namespace Go.Proofs.YtddfdmopaeghnadGreatDoor
open Go.RowKit
end Go.Proofs.YtddfdmopaeghnadGreatDoor
