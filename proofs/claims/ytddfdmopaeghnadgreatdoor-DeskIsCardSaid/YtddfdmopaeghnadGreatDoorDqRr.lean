/- Walk: the reference's ParseOf (printed by wip/genrd4.py). No condition but the text's own size. -/
import Derived.Test.YtddfdmopaeghnadGreatDoorDqRd
import Derived.Test.YtddfdmopaeghnadGreatDoorDqTf
set_option maxRecDepth 100000
set_option maxHeartbeats 16000000
namespace Go.Proofs.YtddfdmopaeghnadGreatDoor
variable {P Q:Prop}
theorem qR_ (k:Q) (h:Nx_ Q->P:=by intro k_;go_at_call 29;refine (HI.out _ (HG.out.st.past (aE_))).mono ?_;rintro e w3 ⟨rfl,hB3⟩;have HM:=hd_ ((HG.out.st.past (aE_)).past hB3);have HGR:Hid (wr.grownBy w3 (some g)):=hd_ (a4_ (gM_ _ (aE_)) hB3);have HN:=hd_ (aV_ (d3_ (w:=wr) (base:=wr.heap.size) (e:=61) (size:=3) (g:=wr.heap.size) (n:=1) #[.int .i64 8,.string .empty,.int .i64 0] rfl (Nat.le_refl _) (by simp [maxLen]) si_) hB3);obtain ⟨-,c1,c2,f1,f2⟩:=HM.out.cells;clear hB3;revert w3 HM HGR HN c1 c2 f1 f2;exact k_.o):P:=h ⟨k⟩
theorem ds59 (k:Q) (h:Nx_ Q->P:=by intro k_;at_builtin;(fail_if_success have z:=TA);refine b4_ _ rfl (.tmp 200) (.tmp 201) _ rfl wr.heap.size 61 i0 _ 3 32 Tryz.underlying59 hi0 hz0 hz1 hz2 rfl om_ _ 1 _ rfl HN.out _ A8 x.length c8 _ rfl HX.out.1.1 (e1_ x) (by simp only [maxLen];omega) om_ HGR.out.size ?_;intro v10 w10 hown10 hg10 hat10;clear hat10;rw [Nat.add_comm 1 x.length] at hown10;obtain ⟨A10,c10,hv10⟩:=b7_ hown10;subst hv10;have hB10:Below wr.heap.size w9 w10:=bA_ (Below.refl _ _) HN.out hg10 HGR.out.size (Nat.le_refl _);have HM:=hd_ (HM.out.under hB10 hgr);have HGR:=hd_ (c2_ HGR.out hB10 (Nat.le_refl _));have HN:=hd_ hown10;have HGC:=hd_ (HG.out.call HM.out HGR.out);have TA:=hd_ True.intro;clear hown10 hg10 hB10;revert w10 A10 c10 HM HGR HN HGC TA;exact k_.o):P:=h ⟨k⟩
theorem ds60 (k:Q) (h:Nx_ Q->P:=by intro k_;at_builtin;(have z:=TA;clear z);refine b4_ _ rfl (.tmp 199) (.tmp 203) _ rfl wb.heap.size 59 i1 (.slice none 0 0) 1 24 Tryz.underlying31 hi1 hy0 hy1 hy2 rfl de_ _ l.length _ rfl (aV_ HGC.out.own (aE_)) _ _ 1 1 [.slice A10 (x.length+1) c10] rfl (Sl.litG si_ rfl) (by simp [Value.oneCell']) (by simp only [maxLen];omega) om_ (by have:=HGC.out.size;simp;omega) ?_;intro v11 w11 hown11 hg11 hat11;obtain ⟨A11,c11,hv11⟩:=b7_ hown11;subst hv11;have hB11:Below wb.heap.size _ w11:=bA_ (Below.refl _ _) (aV_ HGC.out.own (aE_)) hg11 (by have:=HGC.out.size;simp;omega) (Nat.le_refl _);have HM:=hd_ ((HM.out.past (aE_)).under hB11 HG.out.lt);have HGW:=hd_ (c2_ (a4_ HGC.out.row (aE_)) hB11 (Nat.le_refl _));clear hB11;clear hown11 hg11 hat11;revert w11 A11 c11 HM HGW;exact k_.o):P:=h ⟨k⟩
theorem ds61 (k:Q) (h:Nx_ Q->P:=by intro k_;at_builtin;refine b4_ _ rfl (.tmp 138) (.tmp 142) _ rfl wb.heap.size 59 i1 (.slice none 0 0) 1 24 Tryz.underlying31 hi1 hy0 hy1 hy2 rfl de_ _ out.length _ rfl (aV_ HG.out.own ((aE_).alloc si_ _)) _ _ 1 1 [.slice (some ⟨wr.heap.size,0,none⟩) 1 1] rfl (Sl.litG si_ rfl) (by simp [Value.oneCell']) (by simp only [maxLen];omega) om_ (by have:=HG.out.size;simp;omega) ?_;intro v9 w9 hown9 hg9 hat9;obtain ⟨A9,c9,hv9⟩:=b7_ hown9;subst hv9;have HG9:=hd_ ((HG.out.past ((aE_).alloc si_ _)).app ((NdF.lit_ wr ⟨9,T,0⟩ 61 (by simp only [maxLen];omega)).grow (eH_ (aE_)) (fun _ e=>by cases e)) HG.out.size HG.out.lows (TxB.short (TxB.one hTS) om_) si_ hown9 hg9 hat9);clear hown9 hg9 hat9;revert w9 A9 c9 HG9;exact k_.o):P:=h ⟨k⟩
theorem ds62 (k:Q) (h:Nx_ Q->P:=by intro k_;go_at_call 31;(fail_if_success have z:=TW);refine (HME.out _ (HM.out.at_ (k+2) (by go_num))).mono ?_;rintro e w7 ⟨rfl,hs7,hG7⟩;have HM:=hd_ hs7;have HN:=hd_ (cD_ (cD_ HN.out (aU_ _ _ _ _) hgr) hG7 hgr);have HGR:=hd_ (a2_ (a2_ HGR.out (aU_ _ _ _ _)) hG7);have TW:=hd_ True.intro;clear hs7 hG7;revert w7 HM HN HGR TW;exact k_.o):P:=h ⟨k⟩
theorem ds63 (k:Q) (h:Nx_ Q->P:=by intro k_;go_at_call 31;(have z:=TL;clear z);refine (HMU.out _ HM.out).mono ?_;rintro e w9 ⟨rfl,hs9,hG9⟩;have HM:=hd_ hs9;have HX:=hd_ (HX.out.grow hG9 (fun k e=>by cases e;exact hgr));have HN:=hd_ (cD_ HN.out hG9 hgr);have HGR:=hd_ (a2_ HGR.out hG9);clear hs9 hG9;revert w9 HM HX HN HGR;exact k_.o):P:=h ⟨k⟩
theorem ds64 (k:Q) (h:Nx_ Q->P:=by intro k_;go_at_call 32;(fail_if_success have z:=TL);refine (HQ'.out _ HM.out).mono ?_;rintro e w8 ⟨A8,c8,rfl,hn8,hs8,hG8⟩;have HX:=hd_ (hn8.less HGR.out.size);have HM:=hd_ hs8;have HN:=hd_ (cD_ HN.out hG8 hgr);have HGR:=hd_ (a2_ HGR.out hG8);have TL:=hd_ True.intro;clear hn8 hs8 hG8;revert w8 A8 c8 HX HM HN HGR TL;exact k_.o):P:=h ⟨k⟩
theorem ds65 (k:Q) (h:Nx_ Q->P:=by intro k_;have HMU:Hid (∀ w',aO_ g (some ⟨bw,ow,none⟩) c ws k2 false w'->Calls Tryz.prog 31 #[.pointer (some ⟨g,0,none⟩),.string ⟨#[59]⟩] w' (gY_ g (some ⟨bw,ow,none⟩) c ws (k2+1) false (.tuple #[]) w')):=hd_ (fun w' h=>pZ_ w' h b2 _ (by rw [H59];simp) (by rw [H59];exact w59));revert HMU;exact k_.o):P:=h ⟨k⟩
open Go.RowKit
def fY_ (s:ByteArray) (w:World) (e:Ending) (w':World):Prop :=
 ∃ A c,e=.returned (.tuple #[.slice A (bC_ s).2.2.length c,.int .i64 ((bC_ s).2.1:Nat),.int .i64 (bC_ s).1])/\d1_ w.heap.size w' A (bC_ s).2.2/\Below w.heap.size w w'
theorem fY_.none_ {s:ByteArray} {w w':World} {k:Int} {x:Nat} (h:bC_ s=(k,x,[])) (hb:Below w.heap.size w w'):fY_ s w (.returned (.tuple #[.slice none 0 0,.int .i64 (x:Nat),.int .i64 k])) w':=by
 unfold fY_;rw [h];exact ⟨none,0,rfl,d1_.nil_ _ _,hb⟩
theorem fY_.some_ {s:ByteArray} {w w':World} {A:Option Addr} {c:Nat} {l:List (List Nd)} (h:bC_ s=(0,0,l)) (hp:d1_ w.heap.size w' A l) (hb:Below w.heap.size w w'):fY_ s w (.returned (.tuple #[.slice A l.length c,.int .i64 0,.int .i64 0])) w':=by
 unfold fY_;rw [h];exact ⟨A,c,rfl,hp,hb⟩
theorem aO_.nth {g cw k j:Nat} {W:Option Addr} {ws:List ByteArray} {bad:Bool} {w:World} (h:aO_ g W cw ws k bad w) (hj:j<ws.length):∃ b off,W=some ⟨b,off,none⟩/\b<g/\w.cell? ⟨b,off+j,none⟩=some (.string (a3_ ws j)):=by
 obtain ⟨b,off,u,e,hb,hu,hc⟩:=h.txs.1.one (k:=j) hj;refine ⟨b,off,e,hb, ?_⟩;rw [j6_ hj,hc];rw [List.getElem?_map,List.getElem?_eq_getElem hj] at hu
 simpa using hu.symm
theorem Sl.litG {w:World} {g sz n:Nat} {cs:Array Value} {e:TypeId} (hg:w.heap.size=g) (hs:cs.size=n*sz):Sl (w.alloc (.cells cs e)) (w.alloc (.cells cs e)).heap.size sz (some ⟨g,0,none⟩) n cs.toList:=by
 subst hg;exact Sl.lit w cs e n hs
theorem jZ_ {w w':World} {g:Nat} (h:w.grownBy w' (some g)) (p:Addr) (hp:p.block<w.heap.size) (hg:p.block≠g):w'.cell? p=w.cell? p :=
 World.cell?_of_block (w:=w) (h.block p.block hp (fun e=>hg (by injection e)))
theorem z0_ {C:Nat} {w w':World} (h:Below C w w') (m:Nat):Below C w (w'.drewN m):=below_drewN h m
theorem aO_.made {s:ByteArray} {w2:World} {A:Option Addr} {c:Nat} (hE:(cX_ s).1=0) (ht:Txs w2 w2.heap.size A (bB_ (b1_ s))):aO_ w2.heap.size A c (bF_ s) 0 false (w2.alloc (.cells #[.slice A (b1_ s).length c,.int .i64 0,.bool false] 78)):=by
 have hl:(bF_ s).length=(b1_ s).length:=m5_ s;have hct:=jI_ hE;have hb:Below w2.heap.size w2 (w2.alloc (.cells #[.slice A (b1_ s).length c,.int .i64 0,.bool false] 78)):=aE_;refine ⟨?_,⟨ht.1.below hb (Nat.le_refl _),ht.2⟩,by omega⟩;rw [hl];exact aG_ rfl
def rdM (w:World) (g:Nat):Nat:=match w.cell? ⟨g,2,none⟩,w.cell? ⟨g,1,none⟩ with
 | some (.bool false),some (.int _ i)=>60002-i.toNat
 | _,_=>0
theorem dY_ {g cw k:Nat} {W:Option Addr} {ws:List ByteArray} {w:World} (h:aO_ g W cw ws k false w):rdM w g=60002-k:=by
 obtain ⟨-,c1,c2,-,-⟩:=h.cells;simp [rdM,c1,c2]
theorem tL_ {g cw k:Nat} {W:Option Addr} {ws:List ByteArray} {w:World} (h:aO_ g W cw ws k true w):rdM w g=0:=by
 obtain ⟨-,c1,c2,-,-⟩:=h.cells;simp [rdM,c2]
theorem ag1_ (t:ByteArray):∀ x ∈ aJ_ t,x.size<=t.size:=by
 unfold aJ_
 split
 ·intro x hx;cases hx
 ·exact jK_ spB 0 _ t
theorem amT_ (h:P:=by
 go_wp2_with (first
  | (refine qR_ ?_;intro w3 HM HGR HN c1 c2 f1 f2)
  | (refine ds62 ?_;intro w7 HM HN HGR TW)
  | (go_at_call 32;(fail_if_success have z:=TL);refine (HQ'.out _ HM.out).mono ?_;rintro e w8 ⟨A8,c8,x,rfl,hl8,hn8,hs8,hG8⟩;have HX:=hd_ (hn8.less HGR.out.size);have HM:=hd_ hs8;have HN:=hd_ (cD_ HN.out hG8 hgr);have HGR:=hd_ (a2_ HGR.out hG8);have TL:=hd_ True.intro;clear hn8 hs8 hG8)
  | (refine ds63 ?_;intro w9 HM HX HN HGR)
  | (refine ds59 ?_;intro w10 A10 c10 HM HGR HN HGC TA)
  | (refine ds60 ?_;intro w11 A11 c11 HM HGW))
 go_roundw
 case measure=>(show rdM _ g<rdM _ g;rw [dY_ HG.out.st,tL_ HM.out];omega)
 case rel=>exact .inr ⟨_,_,rfl,by omega,HM,HGW,HRES⟩):P:=h
theorem ac0_ (h:P:=by
 generalize a3_ ws k=S at *;clear hlet;go_upto_region 29 with (refine qR_ ?_;intro w3 HM HGR HN c1 c2 f1 f2);refine dN_ (fun w4=>aO_ g (some ⟨bw,ow,none⟩) c ws (k+1) false w4/\wr.grownBy w4 (some g)) ⟨HM.out.at_ (k+1) (by go_num),a2_ HGR.out (aU_ _ _ _ _)⟩ ?_;rintro w4 ⟨hs4,hG4⟩;have HM:=hd_ hs4;have HGR:=hd_ hG4;clear hs4 hG4 HN;obtain ⟨-,c1,c2,f1,f2⟩:=HM.out.cells;obtain ⟨b7,o7,hbe,hb7,hc7⟩:=HM.out.word (k:=k+1) om_
 cases hbe
 go_upto_region 32 with (go_at_call 30;refine (HNA.out _).mono ?_;rintro e w5 ⟨rfl,hw5⟩;have hB:Below w4.heap.size w4 w5:=(by rw [← hw5];first|exact below_drewN (below_drewN (Below.refl _ _) _) _|exact below_drewN (Below.refl _ _) _|exact Below.refl _ _);clear hw5;have hs5:=HM.out.past hB;obtain ⟨-,c1,c2,f1,f2⟩:=hs5.cells;obtain ⟨b8,o8,hbe,hb8,hc8⟩:=hs5.word (k:=k+1) om_;cases hbe;have HM:=hd_ hs5;have HGR:=hd_ (a4_ HGR.out hB);clear hs5 hB);have hgx:=HGR.out.size;refine dN_ (fun w6=>aO_ g (some ⟨bw,ow,none⟩) c ws (k+1) false w6/\wr.grownBy w6 (some g)/\w6.ownsRow wr.heap.size 61 3 (.slice (some ⟨w5.heap.size,0,none⟩) 1 1) 1 [.int .i64 7,.string (a3_ ws (k+1)),.int .i64 0]) ⟨HM.out.past (aE_),a4_ HGR.out (aE_),d3_ (w:=w5) (base:=wr.heap.size) (e:=61) (size:=3) (g:=w5.heap.size) (n:=1) #[.int .i64 7,.string (a3_ ws (k+1)),.int .i64 0] rfl hgx (by simp [maxLen]) si_⟩ ?_;generalize w5.heap.size=gx at *
 rintro w6 ⟨hs6,hG6,hN6⟩;have HM:=hd_ hs6;have HGR:=hd_ hG6;have HN:=hd_ hN6;clear hs6 hG6 hN6 c1 c2 f1 f2;obtain ⟨-,c1,c2,f1,f2⟩:=HM.out.cells
 first
 |
  exact amT_
  done
 |
  go_wp2_with (first
   | (refine qR_ ?_;intro w3 HM HGR HN c1 c2 f1 f2)
   | (refine ds62 ?_;intro w7 HM HN HGR TW)
   | (refine ds64 ?_;intro w8 A8 c8 HX HM HN HGR TL)
   | (refine ds63 ?_;intro w9 HM HX HN HGR)
   | (refine ds59 ?_;intro w10 A10 c10 HM HGR HN HGC TA)
   | (refine ds60 ?_;intro w11 A11 c11 HM HGW))
  go_roundw
  case measure=>(show rdM _ g<rdM _ g;rw [dY_ HG.out.st,tL_ HM.out];omega)
  case rel=>exact .inr ⟨_,_,rfl,by omega,HM,HGW,HRES⟩):P:=h
theorem amU_ (h:P:=by
 go_wp2_with (first
  | (refine qR_ ?_;intro w3 HM HGR HN c1 c2 f1 f2)
  | (refine ds62 ?_;intro w7 HM HN HGR TW)
  | (refine ds64 ?_;intro w8 A8 c8 HX HM HN HGR TL)
  | (refine ds63 ?_;intro w9 HM HX HN HGR)
  | (refine ds59 ?_;intro w10 A10 c10 HM HGR HN HGC TA)
  | (at_builtin;(have z:=TA;clear z);refine b4_ _ rfl (.tmp 199) (.tmp 203) _ rfl wb.heap.size 59 i1 (.slice none 0 0) 1 24 Tryz.underlying31 hi1 hy0 hy1 hy2 rfl de_ _ l.length _ rfl (aV_ HGC.out.own (aE_)) _ _ 1 1 [.slice A10 (x.length+1) c10] rfl (Sl.litG si_ rfl) (by simp [Value.oneCell']) (by simp only [maxLen];omega) om_ (by have:=HGC.out.size;simp;omega) ?_;intro v11 w11 hown11 hg11 hat11;obtain ⟨A11,c11,hv11⟩:=b7_ hown11;subst hv11;have HG9:=hd_ ((HGC.out.past (aE_)).app (u:=dd::x) (lo:=wr.heap.size) ((j3_ (d:=dd) (x:=x) (c:=c10) (n:=x.length+1) (by subst hdd;simpa using HN.out) rfl om_ HDT.out HX.out.1.2.2 (Nat.le_refl _)).grow (eH_ (aE_)) (fun _ e=>by cases e)) HG.out.size HG.out.lows HSHT.out si_ hown11 hg11 hat11);clear hown11 hg11 hat11))
 go_roundw
 case measure=>(show rdM _ g<rdM _ g;rw [dY_ HG.out.st,dY_ HG9.out.st];omega)
 case rel=>exact .inl ⟨l++[dd::x],none,k2+1,j,_,by omega,by omega,by simp [f8_];omega,HQE2.out,HSH2,HG9,HRES⟩):P:=h
theorem ac1_ (h:P:=by
 have HGS:Hid ((e5_ t T).size<=4000000000):=hd_ (by have:=n1_ t T;omega);go_wp2;obtain ⟨vs9,hp9⟩:=(HG.out.past (aE_)).put (u:=[⟨9,e5_ t T,0⟩]) (cu:=1) (by rw [← HEQ.out];exact NdF.lit_ wr ⟨9,_,0⟩ 61 (by rw [HEQ.out];have:=HGS.out;simp only [maxLen];omega)) HG.out.size hb9 (by intro d hd;rw [List.mem_singleton.1 hd];have:=HGS.out;show (e5_ t T).size<4294967281;omega) si_;rw [World.setCell_alloc_past _ _ _ _ hb9] at hp9;have HG9:=hd_ hp9;go_roundw
 case measure=>(refine Nat.lt_of_le_of_lt (Nat.le_of_eq (dY_ HG9.out.st)) ?_;rw [dY_ HG0.out.st];omega)
 case rel=>exact .inl ⟨out,some (gS_ (some t) S),k2+1+1,j,vs9,by omega,by omega,by rw [HPT.out,List.length_append];rw [List.length_append] at hol;simp only [List.length_cons,List.length_nil] at hol ⊢;omega,HQE2.out,HSH2,hd_ (by rw [HPT.out];exact HG9.out),HRN⟩):P:=h
theorem amV_ (h:P:=by
 have HBW:=hd_ (Below.grown HB.out HGW.out om_ (fun k e=>by cases e;omega));have HF:=hd_ (k4_ HE.out (by rw [hwsq];exact HPROG.out.trans HRES.out));obtain ⟨c0,c1,c2,f1,f2⟩:=HM.out.cells;have hxl:x<(b1_ s).length:=by omega
 obtain ⟨b2,off2,u2,rfl,hb2,hu2,hc2⟩:=HPLW.out.one hxw;have hu3:u2=.int .i64 (((b1_ s)[x]).1:Nat):=by simp [dK_,hxl] at hu2;exact hu2.symm
 subst hu3;have hpl:(e2_ s).getD x 0=((b1_ s)[x]).1:=by
  unfold e2_;rw [List.getD_eq_getElem?_getD,List.getElem?_append_left (by simpa using hxl)];simp [hxl]
 rw [hpl] at HF;generalize ((b1_ s)[x]).1=y at *;have d1:decide ((x:Int)<(n:Int))=true:=decide_eq_true om_;have d2:decide (n<=x)=false:=decide_eq_false om_;have d3:decide ((x:Int)<0)=false:=decide_eq_false om_;clear hpl hu2;go_wp2;go_quiet (fail);go_wp2;refine bodyPost_ret (v:=.tuple #[.slice none 0 0,.int .i64 (y:Nat),.int .i64 5]) (by simp [results,Tryz.results12,go_sem]) rfl ?_;exact fY_.none_ HF.out (z0_ HBW.out _)):P:=h
theorem amY_ (h:P:=by
 have HBW:=hd_ (Below.grown HB.out HGW.out om_ (fun k e=>by cases e;omega));have HF:=hd_ (k4_ HE.out (by rw [hwsq];exact HPROG.out.trans HRES.out));obtain ⟨c0,c1,c2,f1,f2⟩:=HM.out.cells;have hpl:(e2_ s).getD x 0=s.size:=by
  have hxe:x=(b1_ s).length:=by omega
  subst hxe;unfold e2_;rw [List.getD_eq_getElem?_getD,List.getElem?_append_right si_];simp
 rw [hpl] at HF;have d1:decide ((x:Int)<(n:Int))=false:=decide_eq_false om_;clear hpl;go_wp2;refine bodyPost_ret (v:=.tuple #[.slice none 0 0,.int .i64 (s.size:Nat),.int .i64 5]) (by simp [results,Tryz.results12,go_sem]) rfl ?_;exact fY_.none_ HF.out HBW.out):P:=h
theorem amZ_ (h:P:=by
 have HMU:Hid (∀ w',aO_ g (some ⟨bw,ow,none⟩) c ws k2 false w'->Calls Tryz.prog 31 #[.pointer (some ⟨g,0,none⟩),.string ⟨#[59]⟩] w' (gY_ g (some ⟨bw,ow,none⟩) c ws k2 true (.tuple #[]) w')):=hd_ (fun w' h=>i0_ w' h b2 _ (by rw [H59];simp) (by rw [H59];simpa [isW] using w59));clear hp hgb w59
 first
 |
  as_aux_lemma =>
   exact ac0_
  done
 |
  as_aux_lemma =>
   generalize a3_ ws k=S at *;clear hlet;go_wp2_with (first
    | (refine qR_ ?_;intro w3 HM HGR HN c1 c2 f1 f2)
    | (refine ds62 ?_;intro w7 HM HN HGR TW)
    | (refine ds64 ?_;intro w8 A8 c8 HX HM HN HGR TL)
    | (refine ds63 ?_;intro w9 HM HX HN HGR)
    | (refine ds59 ?_;intro w10 A10 c10 HM HGR HN HGC TA)
    | (refine ds60 ?_;intro w11 A11 c11 HM HGW))
   go_roundw
   case measure=>(show rdM _ g<rdM _ g;rw [dY_ HG.out.st,tL_ HM.out];omega)
   case rel=>exact .inr ⟨_,_,rfl,by omega,HM,HGW,HRES⟩):P:=h
theorem an0_ (h:P:=by
 refine dN_ (fun w6=>aO_ g (some ⟨bw,ow,none⟩) c ws x true w6/\wb.grownBy w6 (some g)) ⟨by rw [hx1];exact HM.out.bad_,a2_ HG.out.row (a2_ HGR.out (aU_ _ _ _ _))⟩ ?_;rintro w6 ⟨hs6,hG6⟩;have HM:=hd_ hs6;have HGW:=hd_ hG6;clear hs6 hG6 c1 c2 f1 f2
 first
 |
  have hxn:x=n:=om_;clear hx1 hend e5;have HPLW:=hd_ (HPL.out.keep (w':=w6) (fun p hp=>jZ_ HGW.out p om_ om_));exact amY_
  done
 |
  have hxw:x<n:=om_;clear hx1 hend e5 e6 e7 hc7;have HPLW:=hd_ (HPL.out.keep (w':=w6) (fun p hp=>jZ_ HGW.out p om_ om_));exact amV_):P:=h
theorem an1_ (h:P:=by
 obtain ⟨x,hx1⟩:∃ x,x=k+1:=⟨_,rfl⟩;rw [← hx1] at HRES;generalize a3_ ws k=S at *;clear hlet;go_upto_region 29 with (refine qR_ ?_;intro w3 HM HGR HN c1 c2 f1 f2);refine dN_ (fun w4=>aO_ g (some ⟨bw,ow,none⟩) c ws (k+1) false w4/\wr.grownBy w4 (some g)) ⟨HM.out.at_ (k+1) (by go_num),a2_ HGR.out (aU_ _ _ _ _)⟩ ?_;rintro w4 ⟨hs4,hG4⟩;have HM:=hd_ hs4;have HGR:=hd_ hG4;clear hs4 hG4 HN;obtain ⟨-,c1,c2,f1,f2⟩:=HM.out.cells
 first
 |
  go_upto_region 37 with (fail);exact an0_
  done
 |
  (obtain ⟨b7,o7,hbe,hb7,hc7⟩:=HM.out.word (k:=k+1) om_);cases hbe;go_upto_region 37 with (go_at_call 30;refine (HNA.out _).mono ?_;rintro e w5 ⟨rfl,hw5⟩;have hB:Below w4.heap.size w4 w5:=(by rw [← hw5];first|exact below_drewN (below_drewN (Below.refl _ _) _) _|exact below_drewN (Below.refl _ _) _|exact Below.refl _ _);clear hw5;have hs5:=HM.out.past hB;obtain ⟨-,c1,c2,f1,f2⟩:=hs5.cells;obtain ⟨b8,o8,hbe,hb8,hc8⟩:=hs5.word (k:=k+1) om_;cases hbe;have HM:=hd_ hs5;have HGR:=hd_ (a4_ HGR.out hB);clear hs5 hB)
  exact an0_):P:=h
theorem an2_ (h:P:=by
 have HMU:Hid (∀ w',aO_ g (some ⟨bw,ow,none⟩) c ws x0 true w'->Calls Tryz.prog 31 #[.pointer (some ⟨g,0,none⟩),.string ⟨#[59]⟩] w' (gY_ g (some ⟨bw,ow,none⟩) c ws x0 true (.tuple #[]) w')):=hd_ (fun w' h=>i0_ w' h hx _ (by rw [H59];simp) si_);clear hp hgb
 first
 |
  as_aux_lemma =>
   generalize a3_ ws k=S at *;clear hlet;exact amT_
  done
 |
  as_aux_lemma =>
   exact ac0_):P:=h
theorem amW_ (h:P:=by
 have hfw:=HG.out.st.few
 first
 |
  by_cases ha:0<t.size
  ·have f3:decide ((t.size:Int)>0)=true:=decide_eq_true om_
   by_cases hb:0<T.size
   ·have f4:decide ((T.size:Int)>0)=true:=decide_eq_true om_;have HEQ:Hid (t++⟨#[32]⟩++T=e5_ t T):=hd_ (by rw [uG_ _ _ ha hb]);exact ac1_
   ·have f4:decide ((T.size:Int)>0)=false:=decide_eq_false om_;have HEQ:Hid (t++T=e5_ t T):=hd_ (by rw [l5_ _ _ (fun h=>hb h.2)]);exact ac1_
  ·have f3:decide ((t.size:Int)>0)=false:=decide_eq_false om_;have HEQ:Hid (t++T=e5_ t T):=hd_ (by rw [l5_ _ _ (fun h=>ha h.1)]);exact ac1_
  done
 |
  generalize hle:f8_ out pe=l at *;clear hh hle hpe HRR HG0
  cases hlet:isW ws k [108,101,116] with
  | false =>
   have HI:Hid (∀ w',aO_ g (some ⟨bw,ow,none⟩) c ws k false w'->Calls Tryz.prog 29 #[.pointer (some ⟨g,0,none⟩),.string ⟨#[108,101,116]⟩] w' (Ret w' (.bool false))):=hd_ (fun w' h=>by have:=kL_ w' h hk ⟨#[108,101,116]⟩ (by rw [H3];simp);rw [H3] at this;unfold isW at hlet;rw [hlet] at this;exact this);have hgb:=kD_ ws k om_
   cases hp:pX ws k with
   | error x0 =>
    have hx:=hgb.2 x0 hp;have HRES:=hd_ (HREB.out x0 (yH_ hlet hp));have HQ':Hid (∀ w',aO_ g (some ⟨bw,ow,none⟩) c ws k false w'->Calls Tryz.prog 32 #[.pointer (some ⟨g,0,none⟩),.int .i64 0] w' (e6_ g (some ⟨bw,ow,none⟩) c ws k (.error x0) w')):=hd_ (fun w' h=>by have:=HSUM.out k w' h om_;rw [hp] at this;exact this);exact an2_
   | ok r =>
    obtain ⟨x,k2⟩:=r;obtain ⟨b1,b2,b3,b4⟩:=hgb.1 x k2 hp;have HQ':Hid (∀ w',aO_ g (some ⟨bw,ow,none⟩) c ws k false w'->Calls Tryz.prog 32 #[.pointer (some ⟨g,0,none⟩),.int .i64 0] w' (e6_ g (some ⟨bw,ow,none⟩) c ws k (.ok (x,k2)) w')):=hd_ (fun w' h=>by have:=HSUM.out k w' h om_;rw [hp] at this;exact this)
    cases w59:isW ws k2 [59] with
    | false =>
     have HRES:=hd_ (HREB.out k2 (yI_ hlet hp w59));exact amZ_
    | true =>
     have hlt2:=cH_ w59;have hst:=sL_ hlet hp w59;have HRES:=hd_ (HREF.out _ _ hst);have hsb:=tR_ HWB.out k _ _ hst;have HSHT:Hid (dP_ (⟨8,.empty,0⟩::x)):=hd_ (hsb.short om_);have HDT:Hid ((⟨8,.empty,0⟩:Nd).text.size<=maxLen):=hd_ (Nat.le_trans (hsb ⟨8,.empty,0⟩ si_) (by simp only [maxLen];omega));have HSH2:=hd_ (HSH.out.stmt (k':=k2+1) hsb om_);have HQE2:Hid ((none:Option ByteArray).isSome=true↔(0<k2+1/\bI_ (a3_ ws (k2+1-1))=true)):=hd_ (by rw [Nat.add_sub_cancel];simp [vF_ w59]);refine ds65 ?_;intro HMU;clear hp hgb w59 hst hsb;obtain ⟨dd,hdd⟩:∃ dd:Nd,⟨8,.empty,0⟩=dd:=⟨_,rfl⟩;rw [hdd] at HRES HSHT HDT HSH2
     as_aux_lemma =>
      generalize a3_ ws k=S at *;clear hlet;exact amU_
  | true =>
   have HI:Hid (∀ w',aO_ g (some ⟨bw,ow,none⟩) c ws k false w'->Calls Tryz.prog 29 #[.pointer (some ⟨g,0,none⟩),.string ⟨#[108,101,116]⟩] w' (Ret w' (.bool true))):=hd_ (fun w' h=>by have:=kL_ w' h hk ⟨#[108,101,116]⟩ (by rw [H3];simp);rw [H3] at this;unfold isW at hlet;rw [hlet] at this;exact this)
   by_cases hend:k+1<n
   case neg =>
    have hn:aY_ (a3_ ws (k+1))=false:=by rw [j7_ om_];decide +kernel
    have HRES:=hd_ (HREB.out (k+1) (sN_ hlet hn));have e5:decide ((n:Int)<=(k:Int)+1)=true:=decide_eq_true om_;clear hn
    as_aux_lemma =>
     exact an1_
   case pos =>
   have hNz:=HWB.out (k+1);have HNA:=hd_ (fun w'=>n3_ (a3_ ws (k+1)) w' (by simp only [maxLen];omega));have e5:decide ((n:Int)<=(k:Int)+1)=false:=decide_eq_false om_;have e6:decide (n<=k+1)=false:=decide_eq_false om_;have e7:decide ((k:Int)+1<0)=false:=decide_eq_false om_
   cases hn:aY_ (a3_ ws (k+1)) with
   | false =>
    have HRES:=hd_ (HREB.out (k+1) (sN_ hlet hn));rw [hn] at HNA;clear hn
    as_aux_lemma =>
     exact an1_
   | true =>
    rw [hn] at HNA
    cases w61:isW ws (k+2) [61] with
    | false =>
     have HRES:=hd_ (HREB.out (k+2) (yL_ hlet hn w61));have HME:Hid (∀ w',aO_ g (some ⟨bw,ow,none⟩) c ws (k+2) false w'->Calls Tryz.prog 31 #[.pointer (some ⟨g,0,none⟩),.string ⟨#[61]⟩] w' (gY_ g (some ⟨bw,ow,none⟩) c ws (k+2) true (.tuple #[]) w')):=hd_ (fun w' h=>i0_ w' h om_ _ (by rw [H61];simp) (by rw [H61];simpa [isW] using w61));have HQ':Hid (∀ w',aO_ g (some ⟨bw,ow,none⟩) c ws (k+2) true w'->Calls Tryz.prog 32 #[.pointer (some ⟨g,0,none⟩),.int .i64 0] w' (e6_ g (some ⟨bw,ow,none⟩) c ws (k+2) (.error (k+2)) w')):=hd_ (fun w' h=>HSUB.out (k+2) w' h om_);have HMU:Hid (∀ w',aO_ g (some ⟨bw,ow,none⟩) c ws (k+2) true w'->Calls Tryz.prog 31 #[.pointer (some ⟨g,0,none⟩),.string ⟨#[59]⟩] w' (gY_ g (some ⟨bw,ow,none⟩) c ws (k+2) true (.tuple #[]) w')):=hd_ (fun w' h=>i0_ w' h om_ _ (by rw [H59];simp) si_);clear hn w61
     as_aux_lemma =>
      exact ac0_
    | true =>
     have hlt3:=cH_ w61;have HME:Hid (∀ w',aO_ g (some ⟨bw,ow,none⟩) c ws (k+2) false w'->Calls Tryz.prog 31 #[.pointer (some ⟨g,0,none⟩),.string ⟨#[61]⟩] w' (gY_ g (some ⟨bw,ow,none⟩) c ws (k+3) false (.tuple #[]) w')):=hd_ (fun w' h=>pZ_ w' h om_ _ (by rw [H61];simp) (by rw [H61];exact w61));have hgb:=kD_ ws (k+3) om_
     cases hp:pX ws (k+3) with
     | error x0 =>
      have hx:=hgb.2 x0 hp;have HRES:=hd_ (HREB.out x0 (yJ_ hlet hn w61 hp));have HQ':Hid (∀ w',aO_ g (some ⟨bw,ow,none⟩) c ws (k+3) false w'->Calls Tryz.prog 32 #[.pointer (some ⟨g,0,none⟩),.int .i64 0] w' (e6_ g (some ⟨bw,ow,none⟩) c ws (k+3) (.error x0) w')):=hd_ (fun w' h=>by have:=HSUM.out (k+3) w' h om_;rw [hp] at this;exact this);exact an2_
     | ok r =>
      obtain ⟨x,k2⟩:=r;obtain ⟨b1,b2,b3,b4⟩:=hgb.1 x k2 hp;have HQ':Hid (∀ w',aO_ g (some ⟨bw,ow,none⟩) c ws (k+3) false w'->Calls Tryz.prog 32 #[.pointer (some ⟨g,0,none⟩),.int .i64 0] w' (e6_ g (some ⟨bw,ow,none⟩) c ws (k+3) (.ok (x,k2)) w')):=hd_ (fun w' h=>by have:=HSUM.out (k+3) w' h om_;rw [hp] at this;exact this)
      cases w59:isW ws k2 [59] with
      | false =>
       have HRES:=hd_ (HREB.out k2 (yK_ hlet hn w61 hp w59));exact amZ_
      | true =>
       have hlt2:=cH_ w59;have hst:=sM_ hlet hn w61 hp w59;have HRES:=hd_ (HREF.out _ _ hst);have hsb:=tR_ HWB.out k _ _ hst;have HSHT:Hid (dP_ (⟨7,a3_ ws (k+1),0⟩::x)):=hd_ (hsb.short om_);have HDT:Hid ((⟨7,a3_ ws (k+1),0⟩:Nd).text.size<=maxLen):=hd_ (Nat.le_trans (hsb ⟨7,a3_ ws (k+1),0⟩ si_) (by simp only [maxLen];omega));have HSH2:=hd_ (HSH.out.stmt (k':=k2+1) hsb om_);have HQE2:Hid ((none:Option ByteArray).isSome=true↔(0<k2+1/\bI_ (a3_ ws (k2+1-1))=true)):=hd_ (by rw [Nat.add_sub_cancel];simp [vF_ w59]);refine ds65 ?_;intro HMU;clear hp hgb w59 hst hsb;obtain ⟨dd,hdd⟩:∃ dd:Nd,⟨7,a3_ ws (k+1),0⟩=dd:=⟨_,rfl⟩;rw [hdd] at HRES HSHT HDT HSH2
       as_aux_lemma =>
        generalize a3_ ws k=S at *;clear hlet;go_upto_region 29 with (refine qR_ ?_;intro w3 HM HGR HN c1 c2 f1 f2);refine dN_ (fun w4=>aO_ g (some ⟨bw,ow,none⟩) c ws (k+1) false w4/\wr.grownBy w4 (some g)) ⟨HM.out.at_ (k+1) (by go_num),a2_ HGR.out (aU_ _ _ _ _)⟩ ?_;rintro w4 ⟨hs4,hG4⟩;have HM:=hd_ hs4;have HGR:=hd_ hG4;clear hs4 hG4 HN;obtain ⟨-,c1,c2,f1,f2⟩:=HM.out.cells;obtain ⟨b7,o7,hbe,hb7,hc7⟩:=HM.out.word (k:=k+1) om_
        cases hbe
        go_upto_region 32 with (go_at_call 30;refine (HNA.out _).mono ?_;rintro e w5 ⟨rfl,hw5⟩;have hB:Below w4.heap.size w4 w5:=(by rw [← hw5];first|exact below_drewN (below_drewN (Below.refl _ _) _) _|exact below_drewN (Below.refl _ _) _|exact Below.refl _ _);clear hw5;have hs5:=HM.out.past hB;obtain ⟨-,c1,c2,f1,f2⟩:=hs5.cells;obtain ⟨b8,o8,hbe,hb8,hc8⟩:=hs5.word (k:=k+1) om_;cases hbe;have HM:=hd_ hs5;have HGR:=hd_ (a4_ HGR.out hB);clear hs5 hB);have hgx:=HGR.out.size;refine dN_ (fun w6=>aO_ g (some ⟨bw,ow,none⟩) c ws (k+1) false w6/\wr.grownBy w6 (some g)/\w6.ownsRow wr.heap.size 61 3 (.slice (some ⟨w5.heap.size,0,none⟩) 1 1) 1 [.int .i64 7,.string (a3_ ws (k+1)),.int .i64 0]) ⟨HM.out.past (aE_),a4_ HGR.out (aE_),d3_ (w:=w5) (base:=wr.heap.size) (e:=61) (size:=3) (g:=w5.heap.size) (n:=1) #[.int .i64 7,.string (a3_ ws (k+1)),.int .i64 0] rfl hgx (by simp [maxLen]) si_⟩ ?_;generalize w5.heap.size=gx at *
        rintro w6 ⟨hs6,hG6,hN6⟩;have HM:=hd_ hs6;have HGR:=hd_ hG6;have HN:=hd_ hN6;clear hs6 hG6 hN6 c1 c2 f1 f2;obtain ⟨-,c1,c2,f1,f2⟩:=HM.out.cells;exact amU_):P:=h
theorem ac2_ (h:P:=by
 go_wp2;go_roundw
 case measure=>exact iX_
 case rel=>exact ⟨m+1,by first|go_num|rfl,hlt6,by rw [← HEQ.out],by first|rfl|trivial⟩):P:=h
theorem amX_ (h:P:=by
 obtain ⟨j,rfl⟩:∃ i,j=i+1:=⟨j-1,by omega⟩
 first
 |
  have h35:=n2_ hS0 hh;have H3:(⟨#[108,101,116]⟩:ByteArray).toList=[108,101,116]:=by decide +kernel
  have H61:(⟨#[61]⟩:ByteArray).toList=[61]:=by decide +kernel
  have H59:(⟨#[59]⟩:ByteArray).toList=[59]:=by decide +kernel
  have HREF:=hd_ (fun (x:List Nd) (k':Nat) (hs:cN_ ws k=.ok (x,k'))=>HRR.out.trans (v8_ om_ hh hs));have HREB:=hd_ (fun (e:Nat) (hs:cN_ ws k=.error e)=>HRR.out.trans (y6_ om_ hh hs));have hgr:=HG.out.st.lt;exact amW_
  done
 |
  have HRN:Hid (R=gF_ ws j out (some (gS_ pe (a3_ ws k))) (k+1)):=hd_ (by rw [HRR.out,oX_ hh]);have h35:=n2_ hS0 hh;have hTS:(g3_ (a3_ ws k)).size<=60000:=Nat.le_trans (zM_ hh (HASC.out k hh)) (HWB.out k);have HSH2:=hd_ (HSH.out.note hTS);have hSz:=HWB.out k;have hex:((a3_ ws k).extract 1 (a3_ ws k).size).size<=60000:=by simp;omega
  have HNW:=hd_ (fun w'=>jS_ ((a3_ ws k).extract 1 (a3_ ws k).size) w' om_);have hLS:=ag1_ ((a3_ ws k).extract 1 (a3_ ws k).size);obtain ⟨L,hL⟩:∃ L,aJ_ ((a3_ ws k).extract 1 (a3_ ws k).size)=L:=⟨_,rfl⟩;have HNT:Hid (g3_ (a3_ ws k)=e9_ L):=hd_ (by rw [← hL];rfl);unfold wH_ at HNW;rw [hL] at HNW hLS;have HLS:Hid (∀ m (h:m<L.length),(L[m]).size<=60000):=hd_ (fun m h=>Nat.le_trans (hLS _ (List.getElem_mem h)) hex);have HTZ:Hid (∀ t,pe=some t->t.size<=60001*k):=hd_ (fun t e=>by subst e;exact HSH.out.last);have HQE2:Hid ((some (gS_ pe (a3_ ws k))).isSome=true↔(0<k+1/\bI_ (a3_ ws (k+1-1))=true)):=hd_ (by rw [Nat.add_sub_cancel];simp [hh]);have hTL:(e9_ L).size<=60000:=by rw [← HNT.out];exact hTS
  clear hL hLS hh;generalize hle:f8_ out pe=l at *;generalize a3_ ws k=S at *;go_upto_region 12 with (go_at_call 28;refine (HNW.out _).mono ?_;rintro e w4 ⟨A4,c4,rfl,ht4,hB4⟩;have HG:=hd_ ((HG.out.at_ (k+1) (by go_num)).past hB4);have HT4:=hd_ ht4;clear ht4 hB4);have hLm:=HT4.out.2.1;unfold maxLen at hLm;obtain ⟨d0,d1,d2,g1,g2⟩:=HG.out.st.cells;clear c0 c1 c2 f1 f2;go_wp2;go_loopw [12,14] (fun v i wq=>∃ m:Nat,i=.int .i64 (m:Nat)/\m<=L.length/\v=.string (e9_ (L.take m))/\wq=w4) (fun _ i _=>L.length-(intOf i).toNat)
  case atStart=>exact ⟨0,rfl,Nat.zero_le _,rfl,rfl⟩
  case round =>
   obtain ⟨m,rfl,hm,rfl,rfl⟩:=hrel
   by_cases hlt6:m<L.length
   ·have e1:decide ((m:Int)<(L.length:Int))=true:=decide_eq_true om_;obtain ⟨b6,o6,u6,rfl,hb6,hu6,hc6⟩:=HT4.out.1.one (k:=m) hlt6;have hu:u6=.string L[m]:=by rw [List.getElem?_map,List.getElem?_eq_getElem hlt6] at hu6;simpa using hu6.symm
    subst hu;have hst:=adO_ hlt6;have hle1:=yR_ L (m+1);have hle0:=yR_ L m;rw [hst] at hle1;have hge:=n1_ (e9_ (L.take m)) L[m];have hgs:=xA_ (e9_ (L.take m)) L[m];have HST:=hd_ hst;have hus:(L[m]).size<=60000:=HLS.out m hlt6;clear hu6 hst;generalize e9_ (L.take m)=t1 at *;generalize L[m]=u at *
    by_cases hb:0<u.size
    ·have f3:decide ((u.size:Int)>0)=true:=decide_eq_true om_
     by_cases ha:0<t1.size
     ·have f4:decide ((t1.size:Int)>0)=true:=decide_eq_true om_;have HEQ:Hid (t1++⟨#[32]⟩++u=e9_ (L.take (m+1))):=hd_ (by rw [HST.out,uG_ _ _ ha hb]);exact ac2_
     ·have f4:decide ((t1.size:Int)>0)=false:=decide_eq_false om_;have HEQ:Hid (t1++u=e9_ (L.take (m+1))):=hd_ (by rw [HST.out,l5_ _ _ (fun h=>ha h.1)]);exact ac2_
    ·have f3:decide ((u.size:Int)>0)=false:=decide_eq_false om_;have HEQ:Hid (t1++u=e9_ (L.take (m+1))):=hd_ (by rw [HST.out,l5_ _ _ (fun h=>hb h.2)]);exact ac2_
   ·have hme:m=L.length:=by omega
    have e1:decide ((m:Int)<(L.length:Int))=false:=decide_eq_false om_;rw [ahD_ om_,← HNT.out];clear HT4 HNT HLS hTL;obtain ⟨T,hT⟩:∃ T,g3_ S=T:=⟨_,rfl⟩;rw [hT] at hTS ⊢
    cases pe with
    | none =>
     have hlo:out=l:=hle;subst hlo;have HPT:Hid (f8_ out (some (gS_ none S))=out++[[⟨9,T,0⟩]]):=hd_ (by rw [← hT];rfl);clear hT
     rcases Nat.eq_zero_or_pos k with hk0|hk0
     ·have e2:decide (((k:Int)+1)>1)=false:=decide_eq_false om_;go_wp2_with (refine ds61 ?_;intro w9 A9 c9 HG9);go_roundw
      case measure=>first|(rw [dY_ HG0.out.st,dY_ HG9.out.st];omega)|(show rdM _ g<rdM _ g;rw [dY_ HG0.out.st,dY_ HG9.out.st];omega)
      case rel=>exact .inl ⟨out,some (gS_ none S),k+1,j,_,by omega,by omega,by rw [HPT.out,List.length_append];simp only [List.length_cons,List.length_nil];omega,HQE2.out,HSH2,hd_ (by rw [HPT.out];exact HG9.out),HRN⟩
     ·obtain ⟨k2,rfl⟩:∃ i,k=i+1:=⟨k-1,by omega⟩;have hh2:bI_ (a3_ ws k2)=false:=by
       cases h:bI_ (a3_ ws k2) with
       | false=>rfl
       | true=>have:=hpe.2 ⟨hk0,h⟩;simp at this
      have hS2:=HNE.out k2 om_;have e2:decide (((k2:Int)+1+1)>1)=true:=decide_eq_true om_;have e3:=n2_ hS2 hh2;obtain ⟨b7,o7,hbe,hb7,hc7⟩:=HG.out.st.nth (j:=k2) om_
      cases hbe
      go_wp2_with (refine ds61 ?_;intro w9 A9 c9 HG9);go_roundw
      case measure=>first|(rw [dY_ HG0.out.st,dY_ HG9.out.st];omega)|(show rdM _ g<rdM _ g;rw [dY_ HG0.out.st,dY_ HG9.out.st];omega)
      case rel=>exact .inl ⟨out,some (gS_ none S),k2+1+1,j,_,by omega,by omega,by rw [HPT.out,List.length_append];simp only [List.length_cons,List.length_nil];omega,HQE2.out,HSH2,hd_ (by rw [HPT.out];exact HG9.out),HRN⟩
    | some t =>
     have hlo:out++[[⟨9,t,0⟩]]=l:=hle;subst hlo;have HPT:Hid (f8_ out (some (gS_ (some t) S))=out++[[⟨9,e5_ t T,0⟩]]):=hd_ (by rw [← hT];rfl);clear hT;obtain ⟨hk0,hh2⟩:=hpe.1 rfl;obtain ⟨k2,rfl⟩:∃ i,k=i+1:=⟨k-1,by omega⟩;have hS2:=HNE.out k2 om_;have e2:decide (((k2:Int)+1+1)>1)=true:=decide_eq_true om_;have e3:=n2_ hS2 hh2;obtain ⟨b7,o7,hbe,hb7,hc7⟩:=HG.out.st.nth (j:=k2) om_
     cases hbe
     have htz:=HTZ.out t rfl;have hll:(out++[[(⟨9,t,0⟩:Nd)]]).length=out.length+1:=by simp
     obtain ⟨b8,c8,b9,o9,c9,hv,hb8,hb9,hc8,hf8,hc9,hb10⟩:=HG.out.last;rw [hll] at hv;injection hv with hv1 hv2 hv3;subst hv1 hv3;rw [hll] at HG ⊢;exact amW_):P:=h
theorem zQ_ (s:ByteArray) (w:World) (hs:s.size<=maxLen):Calls Tryz.prog 12 #[.string s] w (fY_ s w):=by
 have hs':=hs;unfold maxLen at hs';have HL:=hd_ (afM_ s w hs);clear hs
 by_cases hE:(cX_ s).1=0
 case neg =>
  have HLK:Hid (Calls Tryz.prog 27 #[.string s] w fun e w'=>e=.returned (.tuple #[.slice none 0 0,.slice none 0 0,.int .i64 ((cX_ s).2:Nat),.int .i64 (cX_ s).1])/\Below w.heap.size w w'):=hd_ (HL.out.mono fun e w' h=>h.elim (fun h=>h.2) (fun h=>absurd h.1 hE));have HF:=hd_ (nI_ hE);clear HL;generalize (cX_ s).1=fe at *;generalize (cX_ s).2=pl at *;have d1:decide (fe=0)=false:=decide_eq_false hE;go_enter Tryz.func12,Tryz.ntmps12;go_wp2_with (go_at_call 27;refine HLK.out.mono ?_;rintro e w2 ⟨rfl,hB2⟩;have HB:=hd_ hB2;clear hB2);refine bodyPost_ret (v:=.tuple #[.slice none 0 0,.int .i64 (pl:Nat),.int .i64 fe]) (by simp [results,Tryz.results12,go_sem]) rfl ?_;exact fY_.none_ HF.out HB.out
 case pos =>
 have HLK:Hid (Calls Tryz.prog 27 #[.string s] w fun e w'=>∃ A c A2 c2,e=.returned (.tuple #[.slice A (b1_ s).length c,.slice A2 (b1_ s).length c2,.int .i64 0,.int .i64 0]) /\
  Txs w' w'.heap.size A (bB_ (b1_ s))/\Sl w' w'.heap.size 1 A2 (b1_ s).length (dK_ (b1_ s))/\Below w.heap.size w w'):=hd_ (HL.out.mono fun e w' h=>h.elim (fun h=>absurd hE h.1) (fun h=>h.2))
 have hct:=jI_ hE;have hsz:=(k1_ hE).1;have hl:(bF_ s).length=(b1_ s).length:=m5_ s;obtain ⟨i0,hi0,hz0,hz1,hz2⟩:=info_parts eS_;obtain ⟨i1,hi1,hy0,hy1,hy2⟩:=info_parts vC_;have HE:=hd_ hE;have HMADE:=hd_ (fun (w2:World) (A:Option Addr) (c:Nat)=>aO_.made (s:=s) (w2:=w2) (A:=A) (c:=c) hE);obtain ⟨R,hR⟩:∃ R,R=gF_ (bF_ s) (bF_ s).length [] none 0:=⟨_,rfl⟩;have HPROG:Hid (d9_ (bF_ s) (bF_ s).length [] 0=R):=hd_ (by rw [hR];exact (apB_ (sR_ s)).symm);have HR:=hd_ hR;have HNE:=hd_ (ae2_ s);have HDG:=hd_ (sS_ s);have HWB:=hd_ (sT_ hsz);have HASC:=hd_ (sR_ s);clear hE HL hR;go_enter Tryz.func12,Tryz.ntmps12;go_upto_region 5 with (go_at_call 27;refine HLK.out.mono ?_;rintro e w2 ⟨A,c,A2,c2,rfl,ht2,hp2,hB2⟩;have HB:=hd_ hB2;have HPL:=hd_ hp2;have HT:=hd_ ht2;have hgw:=hB2.size;clear ht2 hp2 hB2);refine dN_ (fun wb=>aO_ w2.heap.size A c (bF_ s) 0 false wb/\Below w.heap.size w wb/\Sl wb w2.heap.size 1 A2 (b1_ s).length (dK_ (b1_ s))/\wb.heap.size=w2.heap.size+1) ⟨HMADE.out w2 A c HT.out,HB.out.alloc hgw _,HPL.out.below (aE_) (Nat.le_refl _),by simp⟩ ?_
 generalize hge:w2.heap.size=g at *;rintro wb ⟨hs1,hB1,hp1,hgb⟩;have HM0:=hd_ hs1;have HB:=hd_ hB1;have HPL:=hd_ hp1;clear hs1 hB1 hp1 HT HMADE HLK;have HSUM:=hd_ (fun (k':Nat) (w':World) (h:aO_ g A c (bF_ s) k' false w') (hk:k'<=(bF_ s).length)=>ak6_ HDG.out HNE.out w' h hk);have HSUB:=hd_ (fun (k':Nat) (w':World) (h:aO_ g A c (bF_ s) k' true w') (hk:k'<=(bF_ s).length)=>ak7_ w' h hk);generalize hwsq:bF_ s=ws at *;generalize hnn:(b1_ s).length=n at *;go_wp2;go_loopw [10,11,12,13,14,15,16,17,18,19] (fun v _ _ _ _ _ _ _ _ _ wr=>(∃ (out:List (List Nd)) (pe:Option ByteArray) (k j:Nat) (vs:List Value),k<=ws.length/\ws.length<=k+j/\(f8_ out pe).length<=k/\(pe.isSome=true↔(0<k/\bI_ (a3_ ws (k-1))=true))/\Hid (ShP k (f8_ out pe))/\Hid (eV_ g A c ws wb (f8_ out pe) k false v vs wr)/\Hid (R=gF_ ws j out pe k))∨(∃ (x:Nat) (v2:Value),v=v2/\x<=ws.length/\Hid (aO_ g A c ws x true wr)/\Hid (wb.grownBy wr (some g))/\Hid (R=.error x))) (fun _ _ _ _ _ _ _ _ _ _ wr=>rdM wr g)
 case atStart=>exact .inl ⟨[],none,0,ws.length,[],Nat.zero_le _,by omega,by simp [f8_],by simp,hd_ (fun u hu=>by cases hu),hd_ (eV_.start HM0.out),HR⟩
 case round =>
  rcases hrel with ⟨out,pe,k,j,vs,hk,hj,hol,hpe,HSH,HG,HRR⟩|⟨x,v2,rfl,hx,HM,HGW,HRES⟩
  ·obtain ⟨Ao,co,rfl⟩:=b7_ HG.out.own;have HG0:=HG;obtain ⟨c0,c1,c2,f1,f2⟩:=HG.out.st.cells
   by_cases hlt:k<n
   ·have q2:decide ((k:Int)<(n:Int))=true:=decide_eq_true om_;obtain ⟨bw,ow,rfl,hbw,hwc⟩:=HG.out.st.word (k:=k) om_;have hS0:=HNE.out k om_
    cases hh:bI_ (a3_ ws k) with
    | true =>
     as_aux_lemma =>
      exact amX_
    | false =>
     exact amX_
   ·have HRES:Hid (R=.ok (f8_ out pe)):=hd_ (by rw [HRR.out,kR_ om_]);have q2:decide ((k:Int)<(n:Int))=false:=decide_eq_false om_;have hol2:(f8_ out pe).length<=60000:=by have:=HG.out.st.few;omega
    generalize f8_ out pe=l at *;have HPRG:=hd_ ((d1_.of_row HG.out.own HG.out.els hol2).less (show w.heap.size<=wb.heap.size by omega));have HPF:=hd_ (w0_ l Ao co wr HPRG.out.prg);have HBW:=hd_ (Below.grown HB.out HG.out.row om_ (fun k e=>by cases e;omega));have hbsz:=HBW.out.size
    by_cases hq:(cC_ l).2=0
    ·have HF:=hd_ (oO_ HE.out (by rw [hwsq];exact HPROG.out.trans HRES.out) hq);unfold gO_ at HPF;rw [hq] at HPF;clear hq;generalize (cC_ l).1=z at *;go_wp2_with (go_at_call 33;refine HPF.out.mono ?_;rintro e w6 ⟨rfl,hB6⟩;have HPRG:=hd_ (HPRG.out.past hB6);have HBW:=hd_ (HBW.out.trans (hB6.mono hbsz));clear hB6);refine bodyPost_ret (v:=.tuple #[.slice Ao l.length co,.int .i64 0,.int .i64 0]) (by simp [results,Tryz.results12,go_sem]) rfl ?_;exact fY_.some_ HF.out HPRG.out HBW.out
    ·have HF:=hd_ (m1_ HE.out (by rw [hwsq];exact HPROG.out.trans HRES.out) hq);unfold gO_ at HPF;generalize (cC_ l).1=z at *;generalize (cC_ l).2=f at *;have d1:decide (f=0)=false:=decide_eq_false hq;go_wp2_with (go_at_call 33;refine HPF.out.mono ?_;rintro e w6 ⟨rfl,hB6⟩;have HBW:=hd_ (HBW.out.trans (hB6.mono hbsz));clear hB6);refine bodyPost_ret (v:=.tuple #[.slice none 0 0,.int .i64 0,.int .i64 f]) (by simp [results,Tryz.results12,go_sem]) rfl ?_;exact fY_.none_ HF.out HBW.out
  ·by_cases hxw:x<n
   ·have hx2:=hxw;have HPLW:=hd_ (HPL.out.keep (w':=wr) (fun p hp=>jZ_ HGW.out p om_ om_));exact amV_
   ·have hx2:=hxw;have HPLW:=hd_ (HPL.out.keep (w':=wr) (fun p hp=>jZ_ HGW.out p om_ om_));exact amY_
end Go.Proofs.YtddfdmopaeghnadGreatDoor
