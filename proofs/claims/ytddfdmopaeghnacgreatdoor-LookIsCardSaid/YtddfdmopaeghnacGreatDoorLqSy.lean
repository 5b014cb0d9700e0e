/- Walks of lay's maker (printed by wip/genmk. With what it rests on. Conditions: as each theorem states them. -/
import Derived.Test.YtddfdmopaeghnacGreatDoorLqCa
import Derived.Deep.RegionHeld3
import Derived.Deep.RegionWith
import Derived.Test.YtddfdmopaeghnacGreatDoorLqSh
import Derived.Shelf.Strings.Builder1
import Derived.Test.YtddfdmopaeghnacGreatDoorLqMm
import Derived.Test.YtddfdmopaeghnacGreatDoorRows
import Derived.Test.YtddfdmopaeghnacGreatDoorLqMk
import Derived.Test.YtddfdmopaeghnacGreatDoorLqTr
set_option maxRecDepth 100000
set_option maxHeartbeats 16000000
namespace Go.Proofs.YtddfdmopaeghnacGreatDoor
open Go.RowKit
theorem gZ_ {w:World} {g:Nat} {o:Obj} (h:w.heap[g]?=some o):g<w.heap.size:=(Array.getElem?_eq_some_iff.1 h).1
theorem Nds.mkunder {w w':World} {B C:Nat} {A:Option Addr} {l:List Nd} (h:Nds w B A l) (hb:Below C w w') (hC:B<=C):Nds w' B A l:=⟨h.1.below hb hC,h.2⟩
theorem zD_ (w:World) (g j:Nat) (v:Value):Below g w (w.setCell ⟨g,j,none⟩ v):=(Below.refl g w).setCell (p:=⟨g,j,none⟩) (Nat.le_refl _) v
theorem yL_ (w:World) (g j:Nat) (v:Value):w.grownBy (w.setCell ⟨g,j,none⟩ v) (some g):=⟨rfl,rfl,rfl,by simp [World.setCell],fun k _ hn=>Below.heap_setCell _ _ _ _ (fun e=>hn (by rw [e]))⟩
theorem gY_ {P:Program} {c:Code} {Q:Exit->Act->World->Prop} {a:Act} {w:World} (S:World->Prop) (hS:S w) (h:∀ w',S w'->Code.wp P c Q a w'):Code.wp P c Q a w:=h w hS
def fB_ (w : World) : Prop := Lib.TabIs Tryz.prog w "internal/strconv.uint64pow10" .u64 Lib.pow10Tab
theorem fB_.keep {w w':World} (h:fB_ w) (hb:w'.heap[2]?=w.heap[2]?):fB_ w':=by
 have hgn : Tryz.prog.globalNamed "internal/strconv.uint64pow10" = some 2 := by kernel_rfl
 unfold fB_ Lib.TabIs World.var? at h ⊢
 rw [hgn] at h ⊢
 simp only [Option.bind_some] at h ⊢
 rw [hb]
 exact h
theorem fB_.lt {w:World} (h:fB_ w):2<w.heap.size:=by
 have hgn : Tryz.prog.globalNamed "internal/strconv.uint64pow10" = some 2 := by kernel_rfl
 unfold fB_ Lib.TabIs World.var? at h
 rw [hgn] at h
 simp only [Option.bind_some] at h
 rcases Nat.lt_or_ge 2 w.heap.size with h'|h'
 ·exact h'
 ·rw [Array.getElem?_eq_none h'] at h;cases h
theorem fB_.past {w w':World} (h:fB_ w) (hb:Below w.heap.size w w'):fB_ w':=h.keep (hb.block _ h.lt)
theorem w5_ (w:World) (k:Nat) (os:Array Obj):Below w.heap.size w (Go.Sort.grow (w.drewN k) os):=by
 refine e2_ (n:=k) ⟨rfl,rfl,rfl, ?_,fun j hj=>?_⟩
 ·simp [Go.Sort.grow]
 ·simp only [Go.Sort.grow]
  rw [Array.getElem?_append_left (by simpa using hj)]
theorem ab5_ {n:Int} (h0:0<=n) (h1:n<=999999) (w:World) (hp:fB_ w):Calls Tryz.prog 81 #[.int .i64 n] w (Ret w (.string ⟨(Lib.itoa n).toArray⟩)):=by
 refine (Tryz.strconv_Itoa n (by omega) (by omega) w hp).mono ?_
 rintro e w' ⟨rfl,k,os,rfl⟩
 exact ⟨rfl,w5_ w k os⟩
structure d0_ (g:Nat) (A:Option Addr) (c:Nat) (l:List Nd) (i:Nat) (w:World):Prop where
 blk:w.heap[g]?=some (.cells #[.slice A l.length c,.int .i64 (i:Nat)] 90 (0,0))
 nds:Nds w g A l
 pow:fB_ w
 glob:2<g
section
variable {g c i:Nat} {A:Option Addr} {l:List Nd} {w w':World}
theorem d0_.lt (h:d0_ g A c l i w):g<w.heap.size:=gZ_ h.blk
theorem d0_.past (h:d0_ g A c l i w) (hb:Below w.heap.size w w'):d0_ g A c l i w':=⟨(hb.block g h.lt).trans h.blk,h.nds.mkunder hb (by have:=h.lt;omega),h.pow.keep (hb.block _ (Nat.lt_trans h.glob h.lt)),h.glob⟩
theorem d0_.cells (h:d0_ g A c l i w):w.cell? ⟨g,0,none⟩=some (.slice A l.length c)/\w.cell? ⟨g,1,none⟩=some (.int .i64 (i:Nat))/\w.frozen? ⟨g,1,none⟩=false:=by
 refine ⟨?_, ?_,Lib.frozen_of_heap h.blk 1⟩ <;> rw [Lib.cell_of_heap h.blk] <;> rfl
theorem d0_.set (h:d0_ g A c l i w) (j:Nat) {v:Int} (hv:v=j):d0_ g A c l j (w.setCell ⟨g,1,none⟩ (.int .i64 v)):=by
 subst hv
 exact ⟨by simp [World.setCell,Array.getElem?_modify,h.blk],h.nds.mkunder (zD_ _ _ _ _) (Nat.le_refl _),h.pow.keep (Below.heap_setCell _ _ _ _ (Nat.ne_of_lt h.glob)),h.glob⟩
theorem d0_.drew (h:d0_ g A c l i w):d0_ g A c l i w.drew:=h.past (Below.refl _ _).drew
end
theorem gS_ {w w':World} (row:Option Nat) (hb:Below w.heap.size w w'):w.grownBy w' row:=⟨hb.os,hb.tape,hb.output,hb.size,fun k hk _=>hb.block k hk⟩
def fX_ (g:Nat) (A:Option Addr) (c:Nat) (l:List Nd) (d:List Nd) (z:Nat) (w:World) (e:Ending) (w':World):Prop :=
 ∃ A' c',e=.returned (.slice A' d.length c')/\NdF w.heap.size w' A' d/\d0_ g A c l z w'/\w.grownBy w' (some g)
def jS_ (g:Nat) (A:Option Addr) (c:Nat) (l:List Nd) (f:Nat):Prop :=
 ∀ (i:Nat) (w:World),d0_ g A c l i w->i<l.length->l.length<=i+f->aW_ l i≠9->Calls Tryz.prog 42 #[.pointer (some ⟨g,0,none⟩)] w (fX_ g A c l (aG_ l f i) (a7_ l i) w)
theorem fT_ {l:List Nd} (hT:Tr l) {f i:Nat} (hf:l.length<=i+f) (hi:i<l.length) (h9:aW_ l i≠9):(aG_ l f i).length<=900:=by
 have h1:aW_ l i=l[i].op:=by rw [aW_,bF_ hi]
 have h2:=lN_ hT f i hf hi (by omega)
 have h3:=jP_ hi
 have h4:=hT.len
 omega
theorem l5_ {l:List Nd} (hT:Tr l) {i:Nat} (hi:i<l.length) (h0:0<i):aW_ l i≠9:=by
 have h1:aW_ l i=l[i].op:=by rw [aW_,bF_ hi]
 have:=hT.low hi h0
 omega
theorem q0_ {l:List Nd} (hT:Tr l) {f m a z:Nat} (h:dR_ l a m z) (h0:0<a) (hf:l.length<=a+f) (hz:z<=l.length):(bU_ (aG_ l f) (a7_ l) a m).length<=900:=by
 have h1:=(k4_ (g:=aG_ l f) m a z h (fun b hb hl=>lN_ hT f b (by omega) hl (by have:=hT.low hl (by omega);omega))).2
 have h4:=hT.len
 omega
theorem uK_ {l:List Nd}:∀ {m a z:Nat},dR_ l a m z->a<=l.length->a<=z/\z<=l.length:=by
 intro m
 induction m with
 | zero=>intro a z h ha;rw [dR_] at h;omega
 | succ m ih =>
  intro a z h ha
  obtain ⟨h1,h2,h3⟩:=h
  have:=ih h3 (jP_ h1).2
  omega
theorem m0_ {g c f:Nat} {A:Option Addr} {l:List Nd} (hT:Tr l) (ih:jS_ g A c l f) (i:Nat) (w:World) (po pn:Int) (pt:ByteArray) (sec:Bool) (hs:d0_ g A c l i w) (hi:i<l.length) (h0:0<i) (hf:l.length<=i+f) :
  Calls Tryz.prog 138 #[.pointer (some ⟨g,0,none⟩),.agg #[.int .i64 po,.string pt,.int .i64 pn],.bool sec] w (fX_ g A c l (d8_ po (aW_ l i) sec (aG_ l f i)) (a7_ l i) w):=by
 have h9:=l5_ hT hi h0
 have hdl:=fT_ hT hf hi h9
 have HI:=hd_ (fun w' hs'=>ih i w' hs' hi hf h9)
 obtain ⟨b,off,op,t,n,rfl,hb,hnd,hts,d1,d2,d3⟩:=hs.nds.node (Below.refl _ _) hi
 have hoe:aW_ l i=op:=by rw [aW_,bF_ hi,hnd]
 rw [hoe]
 generalize aG_ l f i=d at *
 generalize a7_ l i=z at *
 have hgl:=hs.lt
 obtain ⟨c0,c1,f1⟩:=hs.cells
 have hm:=hT.len
 have HS:=hd_ hs
 have HBD:=hd_ (fun w'=>aaB_ po pn op n pt t sec w')
 clear hs hnd hoe ih hT h9 f1 hf
 cases hbd:cQ_ po op sec with
 | true =>
  rw [hbd] at HBD
  have hk:d8_ po op sec d=aQ_ (aV_ ⟨#[40]⟩) (aQ_ d (aV_ ⟨#[41]⟩)):=by simp [d8_,hbd]
  rw [hk]
  clear hk hbd
  go_enter Tryz.func138,Tryz.ntmps138
  go_wp2_with fail
  obtain ⟨wa,hwa⟩:∃ wa,wa=w.alloc (.cells #[.int .i64 po,.string pt,.int .i64 pn] 25):=⟨_,rfl⟩
  have hBa:Below w.heap.size w wa:=by rw [hwa];exact (Below.refl _ _).alloc (Nat.le_refl _) _
  have hza:wa.heap[w.heap.size]?=some (.cells #[.int .i64 po,.string pt,.int .i64 pn] 25 (0,0)):=by rw [hwa];exact aN_ rfl
  rw [← hwa]
  obtain ⟨h,hh⟩:∃ h,h=w.heap.size:=⟨_,rfl⟩
  rw [← hh] at hza
  have hlt:h<wa.heap.size:=(Array.getElem?_eq_some_iff.1 hza).1
  have p0:wa.cell? ⟨h,0,none⟩=some (.int .i64 po):=by rw [Lib.cell_of_heap hza];rfl
  have p1:wa.cell? ⟨h,1,none⟩=some (.string pt):=by rw [Lib.cell_of_heap hza];rfl
  have p2:wa.cell? ⟨h,2,none⟩=some (.int .i64 pn):=by rw [Lib.cell_of_heap hza];rfl
  have hgh:g<h:=by omega
  have HG:Hid (w.grownBy wa (some g)):=hd_ (gS_ _ hBa)
  have hz:w.heap.size<=wa.heap.size:=hBa.size
  have HM:=hd_ (HS.out.past hBa)
  try rw [← hh]
  have hBn:=hBa
  clear hwa hza hh hBa
  obtain ⟨e0,e1,-⟩:=HM.out.cells
  have k0:=(hBn.cell (p:=⟨b,off+i*3,none⟩) (by simp;omega)).trans d1
  have k1:=(hBn.cell (p:=⟨b,off+i*3+1,none⟩) (by simp;omega)).trans d2
  have k2:=(hBn.cell (p:=⟨b,off+i*3+2,none⟩) (by simp;omega)).trans d3
  clear c0 c1 d1 d2 d3
  go_region_held3 (fun w'=>w'.cell? ⟨g,0,none⟩=some (.slice (some ⟨b,off,none⟩) l.length c)/\w'.cell? ⟨g,1,none⟩=some (.int .i64 (i:Nat))/\w'.cell? ⟨h,0,none⟩=some (.int .i64 po)/\w'.cell? ⟨h,1,none⟩=some (.string pt)/\w'.cell? ⟨h,2,none⟩=some (.int .i64 pn)/\w'.cell? ⟨b,off+i*3,none⟩=some (.int .i64 op)/\w'.cell? ⟨b,off+i*3+1,none⟩=some (.string t)/\w'.cell? ⟨b,off+i*3+2,none⟩=some (.int .i64 n))
   (exact ⟨e0,e1,p0,p1,p2,k0,k1,k2⟩)
   (first|(go_at_call 179;refine (HBD.out _).mono ?_;rintro e w1 ⟨rfl,hB⟩;have e0:=(hB.cell (p:=⟨g,0,none⟩) (by simp;omega)).trans e0;have e1:=(hB.cell (p:=⟨g,1,none⟩) (by simp;omega)).trans e1;have p0:=(hB.cell (p:=⟨h,0,none⟩) hlt).trans p0;have p1:=(hB.cell (p:=⟨h,1,none⟩) hlt).trans p1;have p2:=(hB.cell (p:=⟨h,2,none⟩) hlt).trans p2;have k0:=(hB.cell (p:=⟨b,off+i*3,none⟩) (by simp;omega)).trans k0;have k1:=(hB.cell (p:=⟨b,off+i*3+1,none⟩) (by simp;omega)).trans k1;have k2:=(hB.cell (p:=⟨b,off+i*3+2,none⟩) (by simp;omega)).trans k2;have hB:=b7_ hB;have HM:=hd_ (HM.out.past hB);have HG:=hd_ (a1_ HG.out hB);have hz:=Nat.le_trans hz hB.size))
  go_wp2_with (go_at_call 42;refine (HI.out _ HM.out).mono ?_;rintro e w2 ⟨A_d,c_d,rfl,hn,hm2,hG⟩;have HV_d:=hd_ (hn.less hz);have HM:=hd_ hm2;have HG:=hd_ (a0_ HG.out hG);have hz:=Nat.le_trans hz hG.size;clear hn hm2 hG)
  go_wp2_with (first
   | (go_at_call 80;(fail_if_success have z:=T0);refine (e3_ ⟨#[40]⟩ (by decide) _).mono ?_;rintro e w3 ⟨A_X,c_X,rfl,hn,hB⟩;have HV_X:=hd_ (hn.less hz);have HM:=hd_ (HM.out.past hB);have HV_d:=hd_ (HV_d.out.past hB);have HG:=hd_ (a1_ HG.out hB);have hz:=Nat.le_trans hz hB.size;clear hn hB;have T0:=hd_ True.intro)
   | (go_at_call 80;(fail_if_success have z:=T1);have z:=T0;clear z;refine (e3_ ⟨#[41]⟩ (by decide) _).mono ?_;rintro e w4 ⟨A_Y,c_Y,rfl,hn,hB⟩;have HV_Y:=hd_ (hn.less hz);have HM:=hd_ (HM.out.past hB);have HV_d:=hd_ (HV_d.out.past hB);have HV_X:=hd_ (HV_X.out.past hB);have HG:=hd_ (a1_ HG.out hB);have hz:=Nat.le_trans hz hB.size;clear hn hB;have T1:=hd_ True.intro)
   | (go_at_call 85;(fail_if_success have z:=T2);have z:=T1;clear z;refine (cX_ _ _ _ _ _ _ _ HV_d.out.1 HV_Y.out.1 (by (repeat (first|rw [aJ_]|rw [aO_]|rw [aX_]|rw [aL_]|rw [aE_]));omega)).mono ?_;rintro e w5 ⟨A_Z,c_Z,rfl,hn,hB⟩;have HV_Z:=hd_ (hn.less hz);have HM:=hd_ (HM.out.past hB);have HV_X:=hd_ (HV_X.out.past hB);have HG:=hd_ (a1_ HG.out hB);have hz:=Nat.le_trans hz hB.size;clear hn hB;have T2:=hd_ True.intro)
   | (go_at_call 85;(fail_if_success have z:=T3);have z:=T2;clear z;refine (cX_ _ _ _ _ _ _ _ HV_X.out.1 HV_Z.out.1 (by (repeat (first|rw [aJ_]|rw [aO_]|rw [aX_]|rw [aL_]|rw [aE_]));omega)).mono ?_;rintro e w6 ⟨A_R,c_R,rfl,hn,hB⟩;have HV_R:=hd_ (hn.less hz);have HM:=hd_ (HM.out.past hB);have HG:=hd_ (a1_ HG.out hB);have hz:=Nat.le_trans hz hB.size;clear hn hB;have T3:=hd_ True.intro))
  go_ret
  exact ⟨A_R,c_R,rfl,HV_R.out,HM.out,HG.out⟩
 | false =>
  rw [hbd] at HBD
  have hk:d8_ po op sec d=d:=by simp [d8_,hbd]
  rw [hk]
  clear hk hbd
  go_enter Tryz.func138,Tryz.ntmps138
  go_wp2_with fail
  obtain ⟨wa,hwa⟩:∃ wa,wa=w.alloc (.cells #[.int .i64 po,.string pt,.int .i64 pn] 25):=⟨_,rfl⟩
  have hBa:Below w.heap.size w wa:=by rw [hwa];exact (Below.refl _ _).alloc (Nat.le_refl _) _
  have hza:wa.heap[w.heap.size]?=some (.cells #[.int .i64 po,.string pt,.int .i64 pn] 25 (0,0)):=by rw [hwa];exact aN_ rfl
  rw [← hwa]
  obtain ⟨h,hh⟩:∃ h,h=w.heap.size:=⟨_,rfl⟩
  rw [← hh] at hza
  have hlt:h<wa.heap.size:=(Array.getElem?_eq_some_iff.1 hza).1
  have p0:wa.cell? ⟨h,0,none⟩=some (.int .i64 po):=by rw [Lib.cell_of_heap hza];rfl
  have p1:wa.cell? ⟨h,1,none⟩=some (.string pt):=by rw [Lib.cell_of_heap hza];rfl
  have p2:wa.cell? ⟨h,2,none⟩=some (.int .i64 pn):=by rw [Lib.cell_of_heap hza];rfl
  have hgh:g<h:=by omega
  have HG:Hid (w.grownBy wa (some g)):=hd_ (gS_ _ hBa)
  have hz:w.heap.size<=wa.heap.size:=hBa.size
  have HM:=hd_ (HS.out.past hBa)
  try rw [← hh]
  have hBn:=hBa
  clear hwa hza hh hBa
  obtain ⟨e0,e1,-⟩:=HM.out.cells
  have k0:=(hBn.cell (p:=⟨b,off+i*3,none⟩) (by simp;omega)).trans d1
  have k1:=(hBn.cell (p:=⟨b,off+i*3+1,none⟩) (by simp;omega)).trans d2
  have k2:=(hBn.cell (p:=⟨b,off+i*3+2,none⟩) (by simp;omega)).trans d3
  clear c0 c1 d1 d2 d3
  go_region_held3 (fun w'=>w'.cell? ⟨g,0,none⟩=some (.slice (some ⟨b,off,none⟩) l.length c)/\w'.cell? ⟨g,1,none⟩=some (.int .i64 (i:Nat))/\w'.cell? ⟨h,0,none⟩=some (.int .i64 po)/\w'.cell? ⟨h,1,none⟩=some (.string pt)/\w'.cell? ⟨h,2,none⟩=some (.int .i64 pn)/\w'.cell? ⟨b,off+i*3,none⟩=some (.int .i64 op)/\w'.cell? ⟨b,off+i*3+1,none⟩=some (.string t)/\w'.cell? ⟨b,off+i*3+2,none⟩=some (.int .i64 n))
   (exact ⟨e0,e1,p0,p1,p2,k0,k1,k2⟩)
   (first|(go_at_call 179;refine (HBD.out _).mono ?_;rintro e w1 ⟨rfl,hB⟩;have e0:=(hB.cell (p:=⟨g,0,none⟩) (by simp;omega)).trans e0;have e1:=(hB.cell (p:=⟨g,1,none⟩) (by simp;omega)).trans e1;have p0:=(hB.cell (p:=⟨h,0,none⟩) hlt).trans p0;have p1:=(hB.cell (p:=⟨h,1,none⟩) hlt).trans p1;have p2:=(hB.cell (p:=⟨h,2,none⟩) hlt).trans p2;have k0:=(hB.cell (p:=⟨b,off+i*3,none⟩) (by simp;omega)).trans k0;have k1:=(hB.cell (p:=⟨b,off+i*3+1,none⟩) (by simp;omega)).trans k1;have k2:=(hB.cell (p:=⟨b,off+i*3+2,none⟩) (by simp;omega)).trans k2;have hB:=b7_ hB;have HM:=hd_ (HM.out.past hB);have HG:=hd_ (a1_ HG.out hB);have hz:=Nat.le_trans hz hB.size))
  go_wp2_with (go_at_call 42;refine (HI.out _ HM.out).mono ?_;rintro e w2 ⟨A_d,c_d,rfl,hn,hm2,hG⟩;have hn:=hn.less hz;have HN:=hd_ hn;have HM:=hd_ hm2;have HG:=hd_ (a0_ HG.out hG);clear hn hm2 hG)
  go_ret
  exact ⟨A_d,c_d,rfl,HN.out,HM.out,HG.out⟩
theorem pY_ {po ko:Int} {b:Bool} {x:List Nd} (h:po=3∨po=4):d8_ po ko b x=x:=by
 have:cQ_ po ko b=false:=by rcases h with rfl|rfl <;> simp [cQ_]
 simp [d8_,this]
theorem ab6_ {g c f:Nat} {A:Option Addr} {l:List Nd} (hT:Tr l) (ih:jS_ g A c l f) (po pn:Int) (pt:ByteArray) (hpo:po=3∨po=4) :
  ∀ (m a z:Nat) (w:World),dR_ l a (m+1) z->0<a->l.length<=a+f->d0_ g A c l a w->∀ v:Int,v=(m:Int)+1->v<=100 ->
   Calls Tryz.prog 137 #[.pointer (some ⟨g,0,none⟩),.agg #[.int .i64 po,.string pt,.int .i64 pn],.int .i64 v] w (fX_ g A c l (bU_ (aG_ l f) (a7_ l) a (m+1)) z w):=by
 intro m
 induction m with
 | zero =>
  intro a z w hP h0 hf hs v hv hv6
  obtain ⟨q1,q2,q3⟩:=hP
  rw [dR_] at q3
  rw [← q3,show bU_ (aG_ l f) (a7_ l) a (0+1)=aG_ l f a by simp [bU_]]
  have hK:=fun w' hs'=>m0_ hT ih a w' po pn pt false hs' q1 h0 hf
  simp only [pY_ hpo] at hK
  have HK:=hd_ hK
  have hgl:=hs.lt
  have HS:=hd_ hs
  obtain rfl:v=1:=by omega
  generalize aG_ l f a=d at *
  generalize a7_ l a=z' at *
  clear hK hs hpo ih hT q3 hv
  go_enter Tryz.func137,Tryz.ntmps137
  go_wp2_with fail
  obtain ⟨wa,hwa⟩:∃ wa,wa=w.alloc (.cells #[.int .i64 po,.string pt,.int .i64 pn] 25):=⟨_,rfl⟩
  have hBa:Below w.heap.size w wa:=by rw [hwa];exact (Below.refl _ _).alloc (Nat.le_refl _) _
  have hza:wa.heap[w.heap.size]?=some (.cells #[.int .i64 po,.string pt,.int .i64 pn] 25 (0,0)):=by rw [hwa];exact aN_ rfl
  rw [← hwa]
  obtain ⟨h,hh⟩:∃ h,h=w.heap.size:=⟨_,rfl⟩
  rw [← hh] at hza
  have hlt:h<wa.heap.size:=(Array.getElem?_eq_some_iff.1 hza).1
  have p0:wa.cell? ⟨h,0,none⟩=some (.int .i64 po):=by rw [Lib.cell_of_heap hza];rfl
  have p1:wa.cell? ⟨h,1,none⟩=some (.string pt):=by rw [Lib.cell_of_heap hza];rfl
  have p2:wa.cell? ⟨h,2,none⟩=some (.int .i64 pn):=by rw [Lib.cell_of_heap hza];rfl
  have hgh:g<h:=by omega
  have HG:Hid (w.grownBy wa (some g)):=hd_ (gS_ _ hBa)
  have hz:w.heap.size<=wa.heap.size:=hBa.size
  have HM:=hd_ (HS.out.past hBa)
  try rw [← hh]
  clear hwa hza hh hBa
  go_wp2_with (go_at_call 138;refine (HK.out _ HM.out).mono ?_;rintro e w2 ⟨A_d,c_d,rfl,hn,hm2,hG⟩;have HN:=hd_ (hn.less hz);have HM:=hd_ hm2;have HG:=hd_ (a0_ HG.out hG);clear hn hm2 hG)
  go_ret
  exact ⟨A_d,c_d,rfl,HN.out,HM.out,HG.out⟩
 | succ m im =>
  intro a z w hP h0 hf hs v hv hv6
  have hzl:=(uK_ hP (by have:=hP.1;omega)).2
  obtain ⟨q1,q2,q3⟩:=hP
  have hks:=q0_ (f:=f) hT q3 (by omega) (by omega) hzl
  have hdl:=fT_ hT hf q1 (l5_ hT q1 h0)
  rw [show bU_ (aG_ l f) (a7_ l) a (m+1+1)=aQ_ (aQ_ (aG_ l f a) (aV_ ⟨#[44]⟩)) (aQ_ (opN 2) (bU_ (aG_ l f) (a7_ l) (a7_ l a) (m+1))) by simp [bU_]]
  have hK:=fun w' hs'=>m0_ hT ih a w' po pn pt false hs' q1 h0 hf
  simp only [pY_ hpo] at hK
  have HK:=hd_ hK
  have HI:=hd_ (fun w' hs'=>im (a7_ l a) z w' q3 (by omega) (by omega) hs' (v-1) (by omega) (by omega))
  have hgl:=hs.lt
  have HS:=hd_ hs
  have hv1:(v==1)=false:=by simp;omega
  have hv2:2<=v:=by omega
  have kw:IntKind.i64.wrap (v-1)=v-1:=IntWalk.i64_in _ (by omega)
  generalize bU_ (aG_ l f) (a7_ l) (a7_ l a) (m+1)=K at *
  generalize aG_ l f a=d at *
  generalize a7_ l a=z' at *
  clear hK hs hpo ih hT q3 hv im
  go_enter Tryz.func137,Tryz.ntmps137
  go_wp2_with fail
  obtain ⟨wa,hwa⟩:∃ wa,wa=w.alloc (.cells #[.int .i64 po,.string pt,.int .i64 pn] 25):=⟨_,rfl⟩
  have hBa:Below w.heap.size w wa:=by rw [hwa];exact (Below.refl _ _).alloc (Nat.le_refl _) _
  have hza:wa.heap[w.heap.size]?=some (.cells #[.int .i64 po,.string pt,.int .i64 pn] 25 (0,0)):=by rw [hwa];exact aN_ rfl
  rw [← hwa]
  obtain ⟨h,hh⟩:∃ h,h=w.heap.size:=⟨_,rfl⟩
  rw [← hh] at hza
  have hlt:h<wa.heap.size:=(Array.getElem?_eq_some_iff.1 hza).1
  have p0:wa.cell? ⟨h,0,none⟩=some (.int .i64 po):=by rw [Lib.cell_of_heap hza];rfl
  have p1:wa.cell? ⟨h,1,none⟩=some (.string pt):=by rw [Lib.cell_of_heap hza];rfl
  have p2:wa.cell? ⟨h,2,none⟩=some (.int .i64 pn):=by rw [Lib.cell_of_heap hza];rfl
  have hgh:g<h:=by omega
  have HG:Hid (w.grownBy wa (some g)):=hd_ (gS_ _ hBa)
  have hz:w.heap.size<=wa.heap.size:=hBa.size
  have HM:=hd_ (HS.out.past hBa)
  try rw [← hh]
  clear hwa hza hh hBa
  go_wp2_with (go_at_call 138;refine (HK.out _ HM.out).mono ?_;rintro e w2 ⟨A_d,c_d,rfl,hn,hm2,hG⟩;have HV_d:=hd_ (hn.less hz);have p0:=hG.cell p0 (by simp;omega);have p1:=hG.cell p1 (by simp;omega);have p2:=hG.cell p2 (by simp;omega);have HM:=hd_ hm2;have HG:=hd_ (a0_ HG.out hG);have hz:=Nat.le_trans hz hG.size;have hlt:=Nat.lt_of_lt_of_le hlt hG.size;clear hn hm2 hG)
  go_region_held3 (fun w'=>w'.cell? ⟨h,0,none⟩=some (.int .i64 po)/\w'.cell? ⟨h,1,none⟩=some (.string pt)/\w'.cell? ⟨h,2,none⟩=some (.int .i64 pn))
   (exact ⟨p0,p1,p2⟩)
   (first
    | (go_at_call 80;(fail_if_success have z:=T0);refine (e3_ ⟨#[44]⟩ (by decide) _).mono ?_;rintro e w3 ⟨A_X,c_X,rfl,hn,hB⟩;have hB:=b7_ hB;have HV_X:=hd_ (hn.less hz);have HM:=hd_ (HM.out.past hB);have HV_d:=hd_ (HV_d.out.past hB);have p0:=(hB.cell (p:=⟨h,0,none⟩) hlt).trans p0;have p1:=(hB.cell (p:=⟨h,1,none⟩) hlt).trans p1;have p2:=(hB.cell (p:=⟨h,2,none⟩) hlt).trans p2;have HG:=hd_ (a1_ HG.out hB);have hz:=Nat.le_trans hz hB.size;have hlt:=Nat.lt_of_lt_of_le hlt hB.size;clear hn hB;have T0:=hd_ True.intro)
    | (go_at_call 85;(fail_if_success have z:=T1);have z:=T0;clear z;refine (cX_ _ _ _ _ _ _ _ HV_d.out.1 HV_X.out.1 (by (repeat (first|rw [aJ_]|rw [aO_]|rw [aX_]|rw [aL_]|rw [aE_]));omega)).mono ?_;rintro e w4 ⟨A_Y,c_Y,rfl,hn,hB⟩;have HV_Y:=hd_ (hn.less hz);have HM:=hd_ (HM.out.past hB);have p0:=(hB.cell (p:=⟨h,0,none⟩) hlt).trans p0;have p1:=(hB.cell (p:=⟨h,1,none⟩) hlt).trans p1;have p2:=(hB.cell (p:=⟨h,2,none⟩) hlt).trans p2;have HG:=hd_ (a1_ HG.out hB);have hz:=Nat.le_trans hz hB.size;have hlt:=Nat.lt_of_lt_of_le hlt hB.size;clear hn hB;have T1:=hd_ True.intro)
    | (go_at_call 86;(fail_if_success have z:=T2);have z:=T1;clear z;refine (iH_ 2 _).mono ?_;rintro e w5 ⟨A_Z,c_Z,rfl,hn,hB⟩;have HV_Z:=hd_ (hn.less hz);have HM:=hd_ (HM.out.past hB);have HV_Y:=hd_ (HV_Y.out.past hB);have p0:=(hB.cell (p:=⟨h,0,none⟩) hlt).trans p0;have p1:=(hB.cell (p:=⟨h,1,none⟩) hlt).trans p1;have p2:=(hB.cell (p:=⟨h,2,none⟩) hlt).trans p2;have HG:=hd_ (a1_ HG.out hB);have hz:=Nat.le_trans hz hB.size;have hlt:=Nat.lt_of_lt_of_le hlt hB.size;clear hn hB;have T2:=hd_ True.intro)
    | (go_at_call 137;(fail_if_success have z:=T3);have z:=T2;clear z;refine (HI.out _ HM.out).mono ?_;rintro e w6 ⟨A_K,c_K,rfl,hn,hm,hG⟩;have HV_K:=hd_ (hn.less hz);have HM:=hd_ hm;have HV_Y:=hd_ (HV_Y.out.grow hG (fun k e=>by injection e with e;omega));have HV_Z:=hd_ (HV_Z.out.grow hG (fun k e=>by injection e with e;omega));have p0:=(hG.cell p0 (by simp;omega));have p1:=(hG.cell p1 (by simp;omega));have p2:=(hG.cell p2 (by simp;omega));have HG:=hd_ (a0_ HG.out hG);have hz:=Nat.le_trans hz hG.size;have hlt:=Nat.lt_of_lt_of_le hlt hG.size;clear hn hm hG;have T3:=hd_ True.intro)
    | (go_at_call 85;(fail_if_success have z:=T4);have z:=T3;clear z;refine (cX_ _ _ _ _ _ _ _ HV_Z.out.1 HV_K.out.1 (by (repeat (first|rw [aJ_]|rw [aO_]|rw [aX_]|rw [aL_]|rw [aE_]));omega)).mono ?_;rintro e w7 ⟨A_V,c_V,rfl,hn,hB⟩;have HV_V:=hd_ (hn.less hz);have HM:=hd_ (HM.out.past hB);have HV_Y:=hd_ (HV_Y.out.past hB);have p0:=(hB.cell (p:=⟨h,0,none⟩) hlt).trans p0;have p1:=(hB.cell (p:=⟨h,1,none⟩) hlt).trans p1;have p2:=(hB.cell (p:=⟨h,2,none⟩) hlt).trans p2;have HG:=hd_ (a1_ HG.out hB);have hz:=Nat.le_trans hz hB.size;have hlt:=Nat.lt_of_lt_of_le hlt hB.size;clear hn hB;have T4:=hd_ True.intro)
    | (go_at_call 85;(fail_if_success have z:=T5);have z:=T4;clear z;refine (cX_ _ _ _ _ _ _ _ HV_Y.out.1 HV_V.out.1 (by (repeat (first|rw [aJ_]|rw [aO_]|rw [aX_]|rw [aL_]|rw [aE_]));omega)).mono ?_;rintro e w8 ⟨A_R,c_R,rfl,hn,hB⟩;have HV_R:=hd_ (hn.less hz);have HM:=hd_ (HM.out.past hB);have p0:=(hB.cell (p:=⟨h,0,none⟩) hlt).trans p0;have p1:=(hB.cell (p:=⟨h,1,none⟩) hlt).trans p1;have p2:=(hB.cell (p:=⟨h,2,none⟩) hlt).trans p2;have HG:=hd_ (a1_ HG.out hB);have hz:=Nat.le_trans hz hB.size;have hlt:=Nat.lt_of_lt_of_le hlt hB.size;clear hn hB;have T5:=hd_ True.intro))
  go_wp2
  go_ret
  exact ⟨A_R,c_R,rfl,HV_R.out,HM.out,HG.out⟩
end Go.Proofs.YtddfdmopaeghnacGreatDoor
namespace Go.Proofs.YtddfdmopaeghnacGreatDoor
open Go.Shelf Go.RowKit
def u5_:Go.Shelf.Ren:=⟨fun|166=>47|169=>49|240=>92|276=>141|n=>n,fun|0=>0|3=>3|4=>4|9=>9|20=>20|37=>102|70=>101|72=>104|75=>28|80=>72|127=>165|164=>219|5=>5|n=>n,fun|n=>n⟩
theorem pM_:Go.Proofs.Lays.n166 Tryz.prog u5_:={
 mixed:=by kernel_rfl
 f166:=Tryz.func47.trans (congrArg some (by kernel_rfl))
 f240:=Tryz.func92.trans (congrArg some (by kernel_rfl))
 f276:=Tryz.func141.trans (congrArg some (by kernel_rfl))
 t0:=Tryz.underlying0
 a0:=Tryz.isAgg0
 z0:=Tryz.sizeOf0
 v0:=Tryz.zeroValue0
 t3:=Tryz.underlying3
 a3:=Tryz.isAgg3
 z3:=Tryz.sizeOf3
 v3:=Tryz.zeroValue3
 t4:=Tryz.underlying4
 a4:=Tryz.isAgg4
 z4:=Tryz.sizeOf4
 v4:=Tryz.zeroValue4
 t9:=Tryz.underlying9
 a9:=Tryz.isAgg9
 z9:=Tryz.sizeOf9
 v9:=Tryz.zeroValue9
 t20:=Tryz.underlying20
 a20:=Tryz.isAgg20
 z20:=Tryz.sizeOf20
 v20:=Tryz.zeroValue20
 t37:=Tryz.underlying102
 a37:=Tryz.isAgg102
 z37:=Tryz.sizeOf102
 v37:=Tryz.zeroValue102
 t70:=Tryz.underlying101
 a70:=Tryz.isAgg101
 z70:=Tryz.sizeOf101
 v70:=Tryz.zeroValue101
 t72:=Tryz.underlying104
 a72:=Tryz.isAgg104
 z72:=Tryz.sizeOf104
 v72:=Tryz.zeroValue104
 t75:=Tryz.underlying28
 a75:=Tryz.isAgg28
 z75:=Tryz.sizeOf28
 v75:=Tryz.zeroValue28
 t164:=Tryz.underlying219
 a164:=Tryz.isAgg219
 z164:=Tryz.sizeOf219
 v164:=Tryz.zeroValue219
}
theorem pN_:Go.Proofs.Lays.n169 Tryz.prog u5_:={
 mixed:=by kernel_rfl
 f169:=Tryz.func49.trans (congrArg some (by kernel_rfl))
 t0:=Tryz.underlying0
 a0:=Tryz.isAgg0
 z0:=Tryz.sizeOf0
 v0:=Tryz.zeroValue0
 t3:=Tryz.underlying3
 a3:=Tryz.isAgg3
 z3:=Tryz.sizeOf3
 v3:=Tryz.zeroValue3
 t9:=Tryz.underlying9
 a9:=Tryz.isAgg9
 z9:=Tryz.sizeOf9
 v9:=Tryz.zeroValue9
 t37:=Tryz.underlying102
 a37:=Tryz.isAgg102
 z37:=Tryz.sizeOf102
 v37:=Tryz.zeroValue102
 t70:=Tryz.underlying101
 a70:=Tryz.isAgg101
 z70:=Tryz.sizeOf101
 v70:=Tryz.zeroValue101
 t72:=Tryz.underlying104
 a72:=Tryz.isAgg104
 z72:=Tryz.sizeOf104
 v72:=Tryz.zeroValue104
 t127:=Tryz.underlying165
 a127:=Tryz.isAgg165
 z127:=Tryz.sizeOf165
 v127:=Tryz.zeroValue165
}
theorem lJ_:Builder.Extra Tryz.prog u5_:={
 sizeBuilder:=by kernel_rfl
 liesBuilder:=by kernel_rfl
 t5:=Tryz.underlying5
 a5:=Tryz.isAgg5
 z5:=Tryz.sizeOf5
 v5:=Tryz.zeroValue5
 infoByte:=by kernel_rfl
 cellsByte:=by kernel_rfl
 sizeByte:=by kernel_rfl
 neB5:=by decide
}
def Bld (B b:Nat) (s:ByteArray) (w:World):Prop:=Lib.IsBuilder 104 5 B b (Lib.strCells s) w/\B<=w.heap.size
theorem nT_ (s t:ByteArray):Lib.strCells s++Lib.strCells t=Lib.strCells (s++t):=by
 simp [Lib.strCells,ByteArray.data_append]
theorem Bld.new (w:World):Bld w.heap.size w.heap.size .empty (w.alloc (.cells #[.pointer none,.slice none 0 0] 104)) :=
 ⟨Lib.fresh_isBuilder _ _ w,by simp⟩
theorem Bld.past {B b:Nat} {s:ByteArray} {w w':World} (h:Bld B b s w) (hb:Below w.heap.size w w'):Bld B b s w':=by
 refine ⟨?_,Nat.le_trans h.2 hb.size⟩
 have one:∀ {p:Value},Lib.BuilderAt 104 5 B b p (Lib.strCells s) w->Lib.BuilderAt 104 5 B b p (Lib.strCells s) w':=by
  intro p hh
  have hlt:=Lib.BuilderAt.lt hh
  obtain ⟨h1,v,h2,h3,h4⟩:=hh
  exact ⟨h1,v,(hb.block b hlt).trans h2,a9_ h3 hb,h4⟩
 rcases h.1 with hh|hh
 ·exact .inl (one hh)
 ·exact .inr (one hh)
def akJ_ (B b:Nat) (n:Nat) (s:ByteArray) (w:World) (e:Ending) (w':World):Prop:=e=.returned (.tuple #[.int .i64 n,.nilIface])/\Bld B b s w'/\Below B w w'
theorem rD_ (B b:Nat) (s t:ByteArray) (w:World) (h:Bld B b s w) (hlen:s.size+t.size<=140737488355328) :
  Calls Tryz.prog 47 #[.pointer (some ⟨b,0,none⟩),.string t] w (akJ_ B b t.size (s++t) w) :=
 (Any.Builder_WriteString pM_ lJ_ B b (Lib.strCells s) t w h.1 (by rw [Lib.strCells_length];exact hlen) h.2).mono fun e w' ⟨he,hb,hB⟩ =>
  ⟨he,⟨by rw [← nT_];exact .inr hb,Nat.le_trans h.2 hB.size⟩,hB⟩
theorem pO_ (B b:Nat) (s:ByteArray) (w:World) (h:Bld B b s w) :
  Calls Tryz.prog 49 #[.pointer (some ⟨b,0,none⟩)] w fun e w'=>e=.returned (.string s)/\Below B w w' :=
 Any.Builder_String_any pN_ lJ_ B b s.data.toList w h.1 h.2
end Go.Proofs.YtddfdmopaeghnacGreatDoor
namespace Go.Proofs.YtddfdmopaeghnacGreatDoor
open Go.RowKit
theorem oL_ {g c f:Nat} {A:Option Addr} {l:List Nd} (hT:Tr l) (ih:jS_ g A c l f) (po:Int) (m a z:Nat) (pn:Int) (pt o e:ByteArray) (w:World) (hpo:po=3∨po=4) (hpn:pn=m) (hm6:m<=6) (hP:dR_ l a m z) (h0:0<a) (ha:a<=l.length) (hf:l.length<=a+f) (hs:d0_ g A c l a w)
  (ho:o.size<=100) (he:e.size<=100) :
  Calls Tryz.prog 82 #[.pointer (some ⟨g,0,none⟩),.agg #[.int .i64 po,.string pt,.int .i64 pn],.string o,.string e] w (fX_ g A c l (dE_ o e m (bU_ (aG_ l f) (a7_ l) a m)) z w):=by
 have hgl:=hs.lt
 have HS:=hd_ hs
 cases m with
 | zero =>
  rw [dR_] at hP
  subst hP
  obtain rfl:pn=0:=by simpa using hpn
  rw [show dE_ o e 0 (bU_ (aG_ l f) (a7_ l) a 0)=aV_ (o++e) by simp [dE_]]
  have hsz:(o++e).size<=maxLen:=by rw [ByteArray.size_append];simp only [maxLen];omega
  have HSZ:=hd_ hsz
  clear hs hT ih hpo hf ha h0 hpn hsz
  go_enter Tryz.func82,Tryz.ntmps82
  go_wp2_with fail
  obtain ⟨wa,hwa⟩:∃ wa,wa=w.alloc (.cells #[.int .i64 po,.string pt,.int .i64 0] 25):=⟨_,rfl⟩
  have hBa:Below w.heap.size w wa:=by rw [hwa];exact (Below.refl _ _).alloc (Nat.le_refl _) _
  have hza:wa.heap[w.heap.size]?=some (.cells #[.int .i64 po,.string pt,.int .i64 0] 25 (0,0)):=by rw [hwa];exact aN_ rfl
  rw [← hwa]
  obtain ⟨h,hh⟩:∃ h,h=w.heap.size:=⟨_,rfl⟩
  rw [← hh] at hza
  have hlt:h<wa.heap.size:=(Array.getElem?_eq_some_iff.1 hza).1
  have p0:wa.cell? ⟨h,0,none⟩=some (.int .i64 po):=by rw [Lib.cell_of_heap hza];rfl
  have p1:wa.cell? ⟨h,1,none⟩=some (.string pt):=by rw [Lib.cell_of_heap hza];rfl
  have p2:wa.cell? ⟨h,2,none⟩=some (.int .i64 0):=by rw [Lib.cell_of_heap hza];rfl
  have hgh:g<h:=by omega
  have HG:Hid (w.grownBy wa (some g)):=hd_ (gS_ _ hBa)
  have hz:w.heap.size<=wa.heap.size:=hBa.size
  have HM:=hd_ (HS.out.past hBa)
  try rw [← hh]
  clear hwa hza hh hBa
  go_wp2_with (go_at_call 80;refine (e3_ (o++e) HSZ.out _).mono ?_;rintro e w2 ⟨A_d,c_d,rfl,hn,hB⟩;have HN:=hd_ (hn.less hz);have HM:=hd_ (HM.out.past hB);have HG:=hd_ (a1_ HG.out hB);clear hn hB)
  go_ret
  exact ⟨A_d,c_d,rfl,HN.out,HM.out,HG.out⟩
 | succ m =>
  have hzl:=(uK_ hP ha).2
  have hks:=q0_ (f:=f) hT hP h0 hf hzl
  rw [show dE_ o e (m+1) (bU_ (aG_ l f) (a7_ l) a (m+1))=bZ_ (aQ_ (aV_ o) (aQ_ (d7_ (aQ_ (opN 3) (bU_ (aG_ l f) (a7_ l) a (m+1)))) (aQ_ (opN 3) (aV_ e)))) by simp [dE_]]
  have HI:=hd_ (fun w' hs'=>ab6_ hT ih po pn pt hpo m a z w' hP h0 hf hs' pn (by omega) (by omega))
  have hp0:(pn==0)=false:=by simp;omega
  generalize bU_ (aG_ l f) (a7_ l) a (m+1)=K at *
  clear hs hT ih hpo hf ha h0 hpn hP hm6
  go_enter Tryz.func82,Tryz.ntmps82
  go_wp2_with fail
  obtain ⟨wa,hwa⟩:∃ wa,wa=w.alloc (.cells #[.int .i64 po,.string pt,.int .i64 pn] 25):=⟨_,rfl⟩
  have hBa:Below w.heap.size w wa:=by rw [hwa];exact (Below.refl _ _).alloc (Nat.le_refl _) _
  have hza:wa.heap[w.heap.size]?=some (.cells #[.int .i64 po,.string pt,.int .i64 pn] 25 (0,0)):=by rw [hwa];exact aN_ rfl
  rw [← hwa]
  obtain ⟨h,hh⟩:∃ h,h=w.heap.size:=⟨_,rfl⟩
  rw [← hh] at hza
  have hlt:h<wa.heap.size:=(Array.getElem?_eq_some_iff.1 hza).1
  have p0:wa.cell? ⟨h,0,none⟩=some (.int .i64 po):=by rw [Lib.cell_of_heap hza];rfl
  have p1:wa.cell? ⟨h,1,none⟩=some (.string pt):=by rw [Lib.cell_of_heap hza];rfl
  have p2:wa.cell? ⟨h,2,none⟩=some (.int .i64 pn):=by rw [Lib.cell_of_heap hza];rfl
  have hgh:g<h:=by omega
  have HG:Hid (w.grownBy wa (some g)):=hd_ (gS_ _ hBa)
  have hz:w.heap.size<=wa.heap.size:=hBa.size
  have HM:=hd_ (HS.out.past hBa)
  try rw [← hh]
  clear hwa hza hh hBa
  go_wp2_with fail
  go_region_held3 (fun w'=>w'.cell? ⟨h,0,none⟩=some (.int .i64 po)/\w'.cell? ⟨h,1,none⟩=some (.string pt)/\w'.cell? ⟨h,2,none⟩=some (.int .i64 pn))
   (exact ⟨p0,p1,p2⟩)
   (first
    | (go_at_call 86;(fail_if_success have z:=T0);refine (iH_ 3 _).mono ?_;rintro e w3 ⟨A_X,c_X,rfl,hn,hB⟩;have hB:=b7_ hB;have HV_X:=hd_ (hn.less hz);have HM:=hd_ (HM.out.past hB);have p0:=(hB.cell (p:=⟨h,0,none⟩) hlt).trans p0;have p1:=(hB.cell (p:=⟨h,1,none⟩) hlt).trans p1;have p2:=(hB.cell (p:=⟨h,2,none⟩) hlt).trans p2;have HG:=hd_ (a1_ HG.out hB);have hz:=Nat.le_trans hz hB.size;have hlt:=Nat.lt_of_lt_of_le hlt hB.size;clear hn hB;have T0:=hd_ True.intro)
    | (go_at_call 137;(fail_if_success have z:=T1);have z:=T0;clear z;refine (HI.out _ HM.out).mono ?_;rintro e w4 ⟨A_K,c_K,rfl,hn,hm,hG⟩;have HV_K:=hd_ (hn.less hz);have HM:=hd_ hm;have HV_X:=hd_ (HV_X.out.grow hG (fun k e=>by injection e with e;omega));have p0:=(hG.cell p0 (by simp;omega));have p1:=(hG.cell p1 (by simp;omega));have p2:=(hG.cell p2 (by simp;omega));have HG:=hd_ (a0_ HG.out hG);have hz:=Nat.le_trans hz hG.size;have hlt:=Nat.lt_of_lt_of_le hlt hG.size;clear hn hm hG;have T1:=hd_ True.intro)
    | (go_at_call 85;(fail_if_success have z:=T2);have z:=T1;clear z;refine (cX_ _ _ _ _ _ _ _ HV_X.out.1 HV_K.out.1 (by (repeat (first|rw [aJ_]|rw [aO_]|rw [aX_]|rw [aL_]|rw [aE_]));omega)).mono ?_;rintro e w5 ⟨A_Y,c_Y,rfl,hn,hB⟩;have HV_Y:=hd_ (hn.less hz);have HM:=hd_ (HM.out.past hB);have p0:=(hB.cell (p:=⟨h,0,none⟩) hlt).trans p0;have p1:=(hB.cell (p:=⟨h,1,none⟩) hlt).trans p1;have p2:=(hB.cell (p:=⟨h,2,none⟩) hlt).trans p2;have HG:=hd_ (a1_ HG.out hB);have hz:=Nat.le_trans hz hB.size;have hlt:=Nat.lt_of_lt_of_le hlt hB.size;clear hn hB;have T2:=hd_ True.intro)
    | (go_at_call 84;(fail_if_success have z:=T3);have z:=T2;clear z;refine (n3_ _ _ _ _ HV_Y.out.1 (by (repeat (first|rw [aJ_]|rw [aO_]|rw [aX_]|rw [aL_]|rw [aE_]));omega)).mono ?_;rintro e w6 ⟨A_I,c_I,rfl,hn,hB⟩;have HV_I:=hd_ (hn.less hz);have HM:=hd_ (HM.out.past hB);have p0:=(hB.cell (p:=⟨h,0,none⟩) hlt).trans p0;have p1:=(hB.cell (p:=⟨h,1,none⟩) hlt).trans p1;have p2:=(hB.cell (p:=⟨h,2,none⟩) hlt).trans p2;have HG:=hd_ (a1_ HG.out hB);have hz:=Nat.le_trans hz hB.size;have hlt:=Nat.lt_of_lt_of_le hlt hB.size;clear hn hB;have T3:=hd_ True.intro))
  go_wp2_with (first
   | (go_at_call 80;(fail_if_success have z:=U0);refine (e3_ o (by simp only [maxLen];omega) _).mono ?_;rintro e w7 ⟨A_O,c_O,rfl,hn,hB⟩;have HV_O:=hd_ (hn.less hz);have HM:=hd_ (HM.out.past hB);have HV_I:=hd_ (HV_I.out.past hB);have HG:=hd_ (a1_ HG.out hB);have hz:=Nat.le_trans hz hB.size;clear hn hB;have U0:=hd_ True.intro)
   | (go_at_call 86;(fail_if_success have z:=U1);have z:=U0;clear z;refine (iH_ 3 _).mono ?_;rintro e w8 ⟨A_S,c_S,rfl,hn,hB⟩;have HV_S:=hd_ (hn.less hz);have HM:=hd_ (HM.out.past hB);have HV_I:=hd_ (HV_I.out.past hB);have HV_O:=hd_ (HV_O.out.past hB);have HG:=hd_ (a1_ HG.out hB);have hz:=Nat.le_trans hz hB.size;clear hn hB;have U1:=hd_ True.intro)
   | (go_at_call 80;(fail_if_success have z:=U2);have z:=U1;clear z;refine (e3_ e (by simp only [maxLen];omega) _).mono ?_;rintro e w9 ⟨A_E,c_E,rfl,hn,hB⟩;have HV_E:=hd_ (hn.less hz);have HM:=hd_ (HM.out.past hB);have HV_I:=hd_ (HV_I.out.past hB);have HV_O:=hd_ (HV_O.out.past hB);have HV_S:=hd_ (HV_S.out.past hB);have HG:=hd_ (a1_ HG.out hB);have hz:=Nat.le_trans hz hB.size;clear hn hB;have U2:=hd_ True.intro)
   | (go_at_call 85;(fail_if_success have z:=U3);have z:=U2;clear z;refine (cX_ _ _ _ _ _ _ _ HV_S.out.1 HV_E.out.1 (by (repeat (first|rw [aJ_]|rw [aO_]|rw [aX_]|rw [aL_]|rw [aE_]));omega)).mono ?_;rintro e w10 ⟨A_F,c_F,rfl,hn,hB⟩;have HV_F:=hd_ (hn.less hz);have HM:=hd_ (HM.out.past hB);have HV_I:=hd_ (HV_I.out.past hB);have HV_O:=hd_ (HV_O.out.past hB);have HG:=hd_ (a1_ HG.out hB);have hz:=Nat.le_trans hz hB.size;clear hn hB;have U3:=hd_ True.intro)
   | (go_at_call 85;(fail_if_success have z:=U4);have z:=U3;clear z;refine (cX_ _ _ _ _ _ _ _ HV_I.out.1 HV_F.out.1 (by (repeat (first|rw [aJ_]|rw [aO_]|rw [aX_]|rw [aL_]|rw [aE_]));omega)).mono ?_;rintro e w11 ⟨A_G,c_G,rfl,hn,hB⟩;have HV_G:=hd_ (hn.less hz);have HM:=hd_ (HM.out.past hB);have HV_O:=hd_ (HV_O.out.past hB);have HG:=hd_ (a1_ HG.out hB);have hz:=Nat.le_trans hz hB.size;clear hn hB;have U4:=hd_ True.intro)
   | (go_at_call 85;(fail_if_success have z:=U5);have z:=U4;clear z;refine (cX_ _ _ _ _ _ _ _ HV_O.out.1 HV_G.out.1 (by (repeat (first|rw [aJ_]|rw [aO_]|rw [aX_]|rw [aL_]|rw [aE_]));omega)).mono ?_;rintro e w12 ⟨A_H,c_H,rfl,hn,hB⟩;have HV_H:=hd_ (hn.less hz);have HM:=hd_ (HM.out.past hB);have HG:=hd_ (a1_ HG.out hB);have hz:=Nat.le_trans hz hB.size;clear hn hB;have U5:=hd_ True.intro)
   | (go_at_call 87;(fail_if_success have z:=U6);have z:=U5;clear z;refine (lY_ _ _ _ _ HV_H.out.1 (by (repeat (first|rw [aJ_]|rw [aO_]|rw [aX_]|rw [aL_]|rw [aE_]));omega)).mono ?_;rintro e w13 ⟨A_R,c_R,rfl,hn,hB⟩;have HV_R:=hd_ (hn.less hz);have HM:=hd_ (HM.out.past hB);have HG:=hd_ (a1_ HG.out hB);have hz:=Nat.le_trans hz hB.size;clear hn hB;have U6:=hd_ True.intro))
  go_ret
  exact ⟨A_R,c_R,rfl,HV_R.out,HM.out,HG.out⟩
theorem uW_ {g c f:Nat} {A:Option Addr} {l:List Nd} (hT:Tr l) (ih:jS_ g A c l f) (po pn:Int) (a z:Nat) (pt s:ByteArray) (w:World) (hP:dR_ l a 2 z) (h0:0<a) (hf:l.length<=a+f) (hs:d0_ g A c l a w) (hss:s.size<=100) :
  Calls Tryz.prog 83 #[.pointer (some ⟨g,0,none⟩),.agg #[.int .i64 po,.string pt,.int .i64 pn],.string s] w (fX_ g A c l (i4_ s (d8_ po (aW_ l a) false (aG_ l f a)) (d8_ po (aW_ l (a7_ l a)) true (aG_ l f (a7_ l a)))) z w):=by
 obtain ⟨q1,q2,r1,r2,r3⟩:a<l.length/\a<a7_ l a/\a7_ l a<l.length/\a7_ l a<a7_ l (a7_ l a)/\a7_ l (a7_ l a)=z:=⟨hP.1,hP.2.1,hP.2.2.1,hP.2.2.2.1,hP.2.2.2.2⟩
 have HK1:=hd_ (fun w' hs'=>m0_ hT ih a w' po pn pt false hs' q1 h0 hf)
 have HK2:=hd_ (fun w' hs'=>m0_ hT ih (a7_ l a) w' po pn pt true hs' r1 (by omega) (by omega))
 have hx1:=fD_ po (aW_ l a) false (aG_ l f a)
 have hx2:=fT_ hT hf q1 (l5_ hT q1 h0)
 have hy1:=fD_ po (aW_ l (a7_ l a)) true (aG_ l f (a7_ l a))
 have hy2:=fT_ hT (f:=f) (by omega) r1 (l5_ hT r1 (by omega))
 rw [r3] at HK2
 rw [i4_]
 generalize d8_ po (aW_ l a) false (aG_ l f a)=x at *
 generalize d8_ po (aW_ l (a7_ l a)) true (aG_ l f (a7_ l a))=y at *
 have hx:x.length<=1000:=by omega
 have hy:y.length<=1000:=by omega
 have hgl:=hs.lt
 have HS:=hd_ hs
 clear hs hT ih hf h0 hP q1 q2 r1 r2 r3 hx1 hx2 hy1 hy2
 go_enter Tryz.func83,Tryz.ntmps83
 go_wp2_with fail
 obtain ⟨wa,hwa⟩:∃ wa,wa=w.alloc (.cells #[.int .i64 po,.string pt,.int .i64 pn] 25):=⟨_,rfl⟩
 have hBa:Below w.heap.size w wa:=by rw [hwa];exact (Below.refl _ _).alloc (Nat.le_refl _) _
 have hza:wa.heap[w.heap.size]?=some (.cells #[.int .i64 po,.string pt,.int .i64 pn] 25 (0,0)):=by rw [hwa];exact aN_ rfl
 rw [← hwa]
 obtain ⟨h,hh⟩:∃ h,h=w.heap.size:=⟨_,rfl⟩
 rw [← hh] at hza
 have hlt:h<wa.heap.size:=(Array.getElem?_eq_some_iff.1 hza).1
 have p0:wa.cell? ⟨h,0,none⟩=some (.int .i64 po):=by rw [Lib.cell_of_heap hza];rfl
 have p1:wa.cell? ⟨h,1,none⟩=some (.string pt):=by rw [Lib.cell_of_heap hza];rfl
 have p2:wa.cell? ⟨h,2,none⟩=some (.int .i64 pn):=by rw [Lib.cell_of_heap hza];rfl
 have hgh:g<h:=by omega
 have HG:Hid (w.grownBy wa (some g)):=hd_ (gS_ _ hBa)
 have hz:w.heap.size<=wa.heap.size:=hBa.size
 have HM:=hd_ (HS.out.past hBa)
 try rw [← hh]
 clear hwa hza hh hBa
 go_wp2_with (first
  | (go_at_call 138;(fail_if_success have z:=V0);refine (HK1.out _ HM.out).mono ?_;rintro e w2 ⟨A_x,c_x,rfl,hn,hm2,hG⟩;have HV_x:=hd_ (hn.less hz);have p0:=hG.cell p0 (by simp;omega);have p1:=hG.cell p1 (by simp;omega);have p2:=hG.cell p2 (by simp;omega);have HM:=hd_ hm2;have HG:=hd_ (a0_ HG.out hG);have hz:=Nat.le_trans hz hG.size;have hlt:=Nat.lt_of_lt_of_le hlt hG.size;have V0:=hd_ True.intro;clear hn hm2 hG)
  | (go_at_call 138;have z:=V0;clear z;refine (HK2.out _ HM.out).mono ?_;rintro e w3 ⟨A_y,c_y,rfl,hn,hm2,hG⟩;have HV_y:=hd_ (hn.less hz);have HV_x:=hd_ (HV_x.out.grow hG (fun k e=>by injection e with e;omega));have HM:=hd_ hm2;have HG:=hd_ (a0_ HG.out hG);have hz:=Nat.le_trans hz hG.size;clear hn hm2 hG)
  | (go_at_call 86;(fail_if_success have z:=T0);refine (iH_ 2 _).mono ?_;rintro e w4 ⟨A_O,c_O,rfl,hn,hB⟩;have HV_O:=hd_ (hn.less hz);have HM:=hd_ (HM.out.past hB);have HV_x:=hd_ (HV_x.out.past hB);have HV_y:=hd_ (HV_y.out.past hB);have HG:=hd_ (a1_ HG.out hB);have hz:=Nat.le_trans hz hB.size;clear hn hB;have T0:=hd_ True.intro)
  | (go_at_call 80;(fail_if_success have z:=T1);have z:=T0;clear z;refine (e3_ s (by simp only [maxLen];omega) _).mono ?_;rintro e w5 ⟨A_S,c_S,rfl,hn,hB⟩;have HV_S:=hd_ (hn.less hz);have HM:=hd_ (HM.out.past hB);have HV_x:=hd_ (HV_x.out.past hB);have HV_y:=hd_ (HV_y.out.past hB);have HV_O:=hd_ (HV_O.out.past hB);have HG:=hd_ (a1_ HG.out hB);have hz:=Nat.le_trans hz hB.size;clear hn hB;have T1:=hd_ True.intro)
  | (go_at_call 85;(fail_if_success have z:=T2);have z:=T1;clear z;refine (cX_ _ _ _ _ _ _ _ HV_S.out.1 HV_y.out.1 (by (repeat (first|rw [aJ_]|rw [aO_]|rw [aX_]|rw [aL_]|rw [aE_]));omega)).mono ?_;rintro e w6 ⟨A_F,c_F,rfl,hn,hB⟩;have HV_F:=hd_ (hn.less hz);have HM:=hd_ (HM.out.past hB);have HV_x:=hd_ (HV_x.out.past hB);have HV_O:=hd_ (HV_O.out.past hB);have HG:=hd_ (a1_ HG.out hB);have hz:=Nat.le_trans hz hB.size;clear hn hB;have T2:=hd_ True.intro)
  | (go_at_call 85;(fail_if_success have z:=T3);have z:=T2;clear z;refine (cX_ _ _ _ _ _ _ _ HV_O.out.1 HV_F.out.1 (by (repeat (first|rw [aJ_]|rw [aO_]|rw [aX_]|rw [aL_]|rw [aE_]));omega)).mono ?_;rintro e w7 ⟨A_G,c_G,rfl,hn,hB⟩;have HV_G:=hd_ (hn.less hz);have HM:=hd_ (HM.out.past hB);have HV_x:=hd_ (HV_x.out.past hB);have HG:=hd_ (a1_ HG.out hB);have hz:=Nat.le_trans hz hB.size;clear hn hB;have T3:=hd_ True.intro)
  | (go_at_call 84;(fail_if_success have z:=T4);have z:=T3;clear z;refine (n3_ _ _ _ _ HV_G.out.1 (by (repeat (first|rw [aJ_]|rw [aO_]|rw [aX_]|rw [aL_]|rw [aE_]));omega)).mono ?_;rintro e w8 ⟨A_H,c_H,rfl,hn,hB⟩;have HV_H:=hd_ (hn.less hz);have HM:=hd_ (HM.out.past hB);have HV_x:=hd_ (HV_x.out.past hB);have HG:=hd_ (a1_ HG.out hB);have hz:=Nat.le_trans hz hB.size;clear hn hB;have T4:=hd_ True.intro)
  | (go_at_call 85;(fail_if_success have z:=T5);have z:=T4;clear z;refine (cX_ _ _ _ _ _ _ _ HV_x.out.1 HV_H.out.1 (by (repeat (first|rw [aJ_]|rw [aO_]|rw [aX_]|rw [aL_]|rw [aE_]));omega)).mono ?_;rintro e w9 ⟨A_J,c_J,rfl,hn,hB⟩;have HV_J:=hd_ (hn.less hz);have HM:=hd_ (HM.out.past hB);have HG:=hd_ (a1_ HG.out hB);have hz:=Nat.le_trans hz hB.size;clear hn hB;have T5:=hd_ True.intro)
  | (go_at_call 87;(fail_if_success have z:=T6);have z:=T5;clear z;refine (lY_ _ _ _ _ HV_J.out.1 (by (repeat (first|rw [aJ_]|rw [aO_]|rw [aX_]|rw [aL_]|rw [aE_]));omega)).mono ?_;rintro e w10 ⟨A_R,c_R,rfl,hn,hB⟩;have HV_R:=hd_ (hn.less hz);have HM:=hd_ (HM.out.past hB);have HG:=hd_ (a1_ HG.out hB);have hz:=Nat.le_trans hz hB.size;clear hn hB;have T6:=hd_ True.intro))
 go_ret
 exact ⟨A_R,c_R,rfl,HV_R.out,HM.out,HG.out⟩
structure MkN (g h:Nat) (A:Option Addr) (c:Nat) (l:List Nd) (i:Nat) (op:Int) (t:ByteArray) (n:Int) (w0 w:World):Prop where
 st:d0_ g A c l i w
 nd:w.heap[h]?=some (.cells #[.int .i64 op,.string t,.int .i64 n] 25 (0,0))
 gr:w0.grownBy w (some g)
 lt:g<h
 sz:w0.heap.size<=w.heap.size
theorem MkN.cells {g h:Nat} {A:Option Addr} {c i:Nat} {l:List Nd} {op n:Int} {t:ByteArray} {w0 w:World} (x:MkN g h A c l i op t n w0 w) :
  w.cell? ⟨h,0,none⟩=some (.int .i64 op)/\w.cell? ⟨h,1,none⟩=some (.string t)/\w.cell? ⟨h,2,none⟩=some (.int .i64 n):=by
 refine ⟨?_, ?_, ?_⟩ <;> rw [Lib.cell_of_heap x.nd] <;> rfl
theorem n7_ {P:Prop} (h:P:=by
 have hsz:(w.setCell ⟨g,1,none⟩ (.int .i64 ((i:Int)+1))).heap.size=w.heap.size:=by simp [World.setCell]
 exact ⟨((HS.out.set (i+1) (by omega)).past ((Below.refl _ _).alloc (Nat.le_refl _) _)).drew,aN_ (by rw [hsz,hh]),a1_ (yL_ w g 1 _) (((Below.refl _ _).alloc (Nat.le_refl _) _).drew),by omega,by
  show w.heap.size<=((w.setCell ⟨g,1,none⟩ (.int .i64 ((i:Int)+1))).alloc _).heap.size
  simp [World.setCell]⟩):P:=h
theorem agM_ {g c:Nat} {A:Option Addr} {l:List Nd} {i:Nat} {t:ByteArray} {n:Int} {w:World} (hs:d0_ g A c l i w) (hi:i<l.length) (hnd:l[i]=Nd.mk 1 t n) (h40:l.length<=40) (n0:0<=n) (n1:n<=999999) :
  Calls Tryz.prog 42 #[.pointer (some ⟨g,0,none⟩)] w (fX_ g A c l (aV_ ⟨(Lib.itoa n).toArray⟩) (i+1) w):=by
 have k1:IntKind.i64.wrap ((i:Int)+1)=(i:Int)+1:=IntWalk.i64_in _ (by omega)
 have hsz:(⟨(Lib.itoa n).toArray⟩:ByteArray).size<=maxLen:=by
  have:=(hT_ n0 n1).2
  simp only [ByteArray.size,maxLen,List.size_toArray];omega
 have HSZ:=hd_ hsz
 have HIT:=hd_ (fun w' hp=>ab5_ n0 n1 w' hp)
 generalize (⟨(Lib.itoa n).toArray⟩:ByteArray)=T at *
 clear hsz
 obtain ⟨b,off,op,t',n',rfl,hb,hnd',hts,d1,d2,d3⟩:=hs.nds.node (Below.refl _ _) hi
 rw [hnd] at hnd'
 cases hnd'
 have hgl:=hs.lt
 obtain ⟨c0,c1,f1⟩:=hs.cells
 have HS:=hd_ hs
 have hbw:b<w.heap.size:=by omega
 clear hs hnd
 go_enter Tryz.func42,Tryz.ntmps42
 go_wp2
 go_region
 go_upto_region 3 with (fail)
 obtain ⟨h,hh⟩:∃ h,h=w.heap.size:=⟨_,rfl⟩
 rw [← hh]
 refine gY_ (fun wy=>MkN g h (some ⟨b,off,none⟩) c l (i+1) 1 t n w wy) ?named ?_
 case named =>
  exact n7_
 clear hh c0 c1 f1 d1 d2 d3 HS
 rintro wy hy
 obtain ⟨y0,y1,y2⟩:=hy.cells
 have HM:=hd_ hy.st;have HG:=hd_ hy.gr;have hz:=hy.sz;have hlt:=gZ_ hy.nd;have hgh:=hy.lt
 clear hy k1
 go_wp2_with (first
  | (go_at_call 81;refine (HIT.out _ HM.out.pow).mono ?_;rintro e w3 ⟨rfl,hB⟩;have HM:=hd_ (HM.out.past hB);have HG:=hd_ (a1_ HG.out hB);have hz:=Nat.le_trans hz hB.size;clear hB)
  | (go_at_call 80;refine (e3_ T HSZ.out _).mono ?_;rintro e w4 ⟨A_R,c_R,rfl,hn,hB⟩;have HV_R:=hd_ (hn.less hz);have HM:=hd_ (HM.out.past hB);have HG:=hd_ (a1_ HG.out hB);clear hn hB))
 go_ret
 exact ⟨A_R,c_R,rfl,HV_R.out,HM.out,HG.out⟩
theorem agN_ {g c:Nat} {A:Option Addr} {l:List Nd} {i:Nat} {t:ByteArray} {n:Int} {w:World} (hs:d0_ g A c l i w) (hi:i<l.length) (hnd:l[i]=Nd.mk 2 t n) (h40:l.length<=40)  :
  Calls Tryz.prog 42 #[.pointer (some ⟨g,0,none⟩)] w (fX_ g A c l (aV_ t) (i+1) w):=by
 have k1:IntKind.i64.wrap ((i:Int)+1)=(i:Int)+1:=IntWalk.i64_in _ (by omega)
 obtain ⟨b,off,op,t',n',rfl,hb,hnd',hts,d1,d2,d3⟩:=hs.nds.node (Below.refl _ _) hi
 rw [hnd] at hnd'
 cases hnd'
 have hgl:=hs.lt
 obtain ⟨c0,c1,f1⟩:=hs.cells
 have HS:=hd_ hs
 have hbw:b<w.heap.size:=by omega
 clear hs hnd
 go_enter Tryz.func42,Tryz.ntmps42
 go_wp2
 go_region
 go_upto_region 3 with (fail)
 obtain ⟨h,hh⟩:∃ h,h=w.heap.size:=⟨_,rfl⟩
 rw [← hh]
 refine gY_ (fun wy=>MkN g h (some ⟨b,off,none⟩) c l (i+1) 2 t n w wy) ?named ?_
 case named =>
  exact n7_
 clear hh c0 c1 f1 d1 d2 d3 HS
 rintro wy hy
 obtain ⟨y0,y1,y2⟩:=hy.cells
 have HM:=hd_ hy.st;have HG:=hd_ hy.gr;have hz:=hy.sz;have hlt:=gZ_ hy.nd;have hgh:=hy.lt
 clear hy k1
 go_wp2_with (go_at_call 80;refine (e3_ t hts _).mono ?_;rintro e w4 ⟨A_R,c_R,rfl,hn,hB⟩;have HV_R:=hd_ (hn.less hz);have HM:=hd_ (HM.out.past hB);have HG:=hd_ (a1_ HG.out hB);clear hn hB)
 go_ret
 exact ⟨A_R,c_R,rfl,HV_R.out,HM.out,HG.out⟩
theorem lq13 {P:Prop} (h:P:=by
 clear hh c0 c1 f1 d1 d2 d3 HS
 rintro wy hy
 obtain ⟨y0,y1,y2⟩:=hy.cells
 have HM:=hd_ hy.st;have HG:=hd_ hy.gr;have hz:=hy.sz;have hlt:=gZ_ hy.nd;have hgh:=hy.lt
 clear hy k1
 go_wp2_with (go_at_call 82;refine (HL.out _ HM.out).mono ?_;rintro e w3 ⟨A_R,c_R,rfl,hn,hm3,hG⟩;have HV_R:=hd_ (hn.less hz);have HM:=hd_ hm3;have HG:=hd_ (a0_ HG.out hG);clear hn hm3 hG)
 go_ret
 exact ⟨A_R,c_R,rfl,HV_R.out,HM.out,HG.out⟩):P:=h
theorem agO_ {g c:Nat} {A:Option Addr} {l:List Nd} {i:Nat} {t:ByteArray} {n:Int} {w:World} (hs:d0_ g A c l i w) (hi:i<l.length) (hnd:l[i]=Nd.mk 3 t n) (h40:l.length<=40) (ht8:t.size<=8) {R:List Nd} {z:Nat} (HL:Hid (∀ w',d0_ g A c l (i+1) w'->Calls Tryz.prog 82 #[.pointer (some ⟨g,0,none⟩),.agg #[.int .i64 3,.string t,.int .i64 n],.string (t++⟨#[40]⟩),.string ⟨#[41]⟩] w' (fX_ g A c l R z w'))) :
  Calls Tryz.prog 42 #[.pointer (some ⟨g,0,none⟩)] w (fX_ g A c l R z w):=by
 have k1:IntKind.i64.wrap ((i:Int)+1)=(i:Int)+1:=IntWalk.i64_in _ (by omega)
 obtain ⟨b,off,op,t',n',rfl,hb,hnd',hts,d1,d2,d3⟩:=hs.nds.node (Below.refl _ _) hi
 rw [hnd] at hnd'
 cases hnd'
 have hgl:=hs.lt
 obtain ⟨c0,c1,f1⟩:=hs.cells
 have HS:=hd_ hs
 have hbw:b<w.heap.size:=by omega
 clear hs hnd
 go_enter Tryz.func42,Tryz.ntmps42
 go_wp2
 go_region
 go_upto_region 3 with (fail)
 obtain ⟨h,hh⟩:∃ h,h=w.heap.size:=⟨_,rfl⟩
 rw [← hh]
 refine gY_ (fun wy=>MkN g h (some ⟨b,off,none⟩) c l (i+1) 3 t n w wy) ?named ?_
 case named =>
  exact n7_
 exact lq13
theorem agP_ {g c:Nat} {A:Option Addr} {l:List Nd} {i:Nat} {t:ByteArray} {n:Int} {w:World} (hs:d0_ g A c l i w) (hi:i<l.length) (hnd:l[i]=Nd.mk 4 t n) (h40:l.length<=40) {R:List Nd} {z:Nat} (HL:Hid (∀ w',d0_ g A c l (i+1) w'->Calls Tryz.prog 82 #[.pointer (some ⟨g,0,none⟩),.agg #[.int .i64 4,.string t,.int .i64 n],.string ⟨#[91]⟩,.string ⟨#[93]⟩] w' (fX_ g A c l R z w'))) :
  Calls Tryz.prog 42 #[.pointer (some ⟨g,0,none⟩)] w (fX_ g A c l R z w):=by
 have k1:IntKind.i64.wrap ((i:Int)+1)=(i:Int)+1:=IntWalk.i64_in _ (by omega)
 obtain ⟨b,off,op,t',n',rfl,hb,hnd',hts,d1,d2,d3⟩:=hs.nds.node (Below.refl _ _) hi
 rw [hnd] at hnd'
 cases hnd'
 have hgl:=hs.lt
 obtain ⟨c0,c1,f1⟩:=hs.cells
 have HS:=hd_ hs
 have hbw:b<w.heap.size:=by omega
 clear hs hnd
 go_enter Tryz.func42,Tryz.ntmps42
 go_wp2
 go_region
 go_upto_region 3 with (fail)
 obtain ⟨h,hh⟩:∃ h,h=w.heap.size:=⟨_,rfl⟩
 rw [← hh]
 refine gY_ (fun wy=>MkN g h (some ⟨b,off,none⟩) c l (i+1) 4 t n w wy) ?named ?_
 case named =>
  exact n7_
 exact lq13
theorem lq14 {P:Prop} (h:P:=by
 clear hh c0 c1 f1 d1 d2 d3 HS
 rintro wy hy
 obtain ⟨y0,y1,y2⟩:=hy.cells
 have HM:=hd_ hy.st;have HG:=hd_ hy.gr;have hz:=hy.sz;have hlt:=gZ_ hy.nd;have hgh:=hy.lt
 clear hy k1
 go_wp2_with (go_at_call 83;refine (HL.out _ HM.out).mono ?_;rintro e w3 ⟨A_R,c_R,rfl,hn,hm3,hG⟩;have HV_R:=hd_ (hn.less hz);have HM:=hd_ hm3;have HG:=hd_ (a0_ HG.out hG);clear hn hm3 hG)
 go_ret
 exact ⟨A_R,c_R,rfl,HV_R.out,HM.out,HG.out⟩):P:=h
theorem agQ_ {g c:Nat} {A:Option Addr} {l:List Nd} {i:Nat} {t:ByteArray} {n:Int} {w:World} (hs:d0_ g A c l i w) (hi:i<l.length) (hnd:l[i]=Nd.mk 5 t n) (h40:l.length<=40) {R:List Nd} {z:Nat} (HL:Hid (∀ w',d0_ g A c l (i+1) w'->Calls Tryz.prog 83 #[.pointer (some ⟨g,0,none⟩),.agg #[.int .i64 5,.string t,.int .i64 n],.string ⟨#[43,32]⟩] w' (fX_ g A c l R z w'))) :
  Calls Tryz.prog 42 #[.pointer (some ⟨g,0,none⟩)] w (fX_ g A c l R z w):=by
 have k1:IntKind.i64.wrap ((i:Int)+1)=(i:Int)+1:=IntWalk.i64_in _ (by omega)
 obtain ⟨b,off,op,t',n',rfl,hb,hnd',hts,d1,d2,d3⟩:=hs.nds.node (Below.refl _ _) hi
 rw [hnd] at hnd'
 cases hnd'
 have hgl:=hs.lt
 obtain ⟨c0,c1,f1⟩:=hs.cells
 have HS:=hd_ hs
 have hbw:b<w.heap.size:=by omega
 clear hs hnd
 go_enter Tryz.func42,Tryz.ntmps42
 go_wp2
 go_region
 go_upto_region 3 with (fail)
 obtain ⟨h,hh⟩:∃ h,h=w.heap.size:=⟨_,rfl⟩
 rw [← hh]
 refine gY_ (fun wy=>MkN g h (some ⟨b,off,none⟩) c l (i+1) 5 t n w wy) ?named ?_
 case named =>
  exact n7_
 exact lq14
theorem agR_ {g c:Nat} {A:Option Addr} {l:List Nd} {i:Nat} {t:ByteArray} {n:Int} {w:World} (hs:d0_ g A c l i w) (hi:i<l.length) (hnd:l[i]=Nd.mk 6 t n) (h40:l.length<=40) {R:List Nd} {z:Nat} (HL:Hid (∀ w',d0_ g A c l (i+1) w'->Calls Tryz.prog 83 #[.pointer (some ⟨g,0,none⟩),.agg #[.int .i64 6,.string t,.int .i64 n],.string ⟨#[42,32]⟩] w' (fX_ g A c l R z w'))) :
  Calls Tryz.prog 42 #[.pointer (some ⟨g,0,none⟩)] w (fX_ g A c l R z w):=by
 have k1:IntKind.i64.wrap ((i:Int)+1)=(i:Int)+1:=IntWalk.i64_in _ (by omega)
 obtain ⟨b,off,op,t',n',rfl,hb,hnd',hts,d1,d2,d3⟩:=hs.nds.node (Below.refl _ _) hi
 rw [hnd] at hnd'
 cases hnd'
 have hgl:=hs.lt
 obtain ⟨c0,c1,f1⟩:=hs.cells
 have HS:=hd_ hs
 have hbw:b<w.heap.size:=by omega
 clear hs hnd
 go_enter Tryz.func42,Tryz.ntmps42
 go_wp2
 go_region
 go_upto_region 3 with (fail)
 obtain ⟨h,hh⟩:∃ h,h=w.heap.size:=⟨_,rfl⟩
 rw [← hh]
 refine gY_ (fun wy=>MkN g h (some ⟨b,off,none⟩) c l (i+1) 6 t n w wy) ?named ?_
 case named =>
  exact n7_
 exact lq14
theorem agS_ {g c:Nat} {A:Option Addr} {l:List Nd} {i:Nat} {t:ByteArray} {n:Int} {w:World} (hs:d0_ g A c l i w) (hi:i<l.length) (hnd:l[i]=Nd.mk 7 t n) (h40:l.length<=40) (ht8:t.size<=8) {d:List Nd} {z:Nat} (hdl:d.length<=900) (HD:Hid (∀ w',d0_ g A c l (i+1) w'->Calls Tryz.prog 42 #[.pointer (some ⟨g,0,none⟩)] w' (fX_ g A c l d z w'))) :
  Calls Tryz.prog 42 #[.pointer (some ⟨g,0,none⟩)] w (fX_ g A c l (bZ_ (aQ_ (aV_ (⟨#[108,101,116,32]⟩++t++⟨#[32,61]⟩)) (d7_ (aQ_ (opN 2) (aQ_ d (aV_ ⟨#[59]⟩)))))) z w):=by
 have k1:IntKind.i64.wrap ((i:Int)+1)=(i:Int)+1:=IntWalk.i64_in _ (by omega)
 have hsz:(⟨#[108,101,116,32]⟩++t++⟨#[32,61]⟩:ByteArray).size<=maxLen:=by
  simp only [ByteArray.size_append,maxLen]
  show 4+t.size+2<=_
  omega
 have HSZ:=hd_ hsz
 clear hsz
 have hcat0:∀ w',(Op.stringOp .add ⟨#[108,101,116,32]⟩ t).run Tryz.prog w'=.ok (.string (⟨#[108,101,116,32]⟩++t)) w':=fun w'=>run_string_add_sum w' _ t (by show 4+t.size<=_;omega)
 have hcat1:∀ w',(Op.stringOp .add (⟨#[108,101,116,32]⟩++t) ⟨#[32,61]⟩).run Tryz.prog w'=.ok (.string (⟨#[108,101,116,32]⟩++t++⟨#[32,61]⟩)) w':=fun w'=>run_string_add_sum w' _ _ (by rw [ByteArray.size_append];show 4+t.size+2<=_;omega)
 obtain ⟨b,off,op,t',n',rfl,hb,hnd',hts,d1,d2,d3⟩:=hs.nds.node (Below.refl _ _) hi
 rw [hnd] at hnd'
 cases hnd'
 have hgl:=hs.lt
 obtain ⟨c0,c1,f1⟩:=hs.cells
 have HS:=hd_ hs
 have hbw:b<w.heap.size:=by omega
 clear hs hnd
 go_enter Tryz.func42,Tryz.ntmps42
 go_wp2
 go_region
 go_upto_region 3 with (fail)
 obtain ⟨h,hh⟩:∃ h,h=w.heap.size:=⟨_,rfl⟩
 rw [← hh]
 refine gY_ (fun wy=>MkN g h (some ⟨b,off,none⟩) c l (i+1) 7 t n w wy) ?named ?_
 case named =>
  exact n7_
 clear hh c0 c1 f1 d1 d2 d3 HS
 rintro wy hy
 obtain ⟨y0,y1,y2⟩:=hy.cells
 have HM:=hd_ hy.st;have HG:=hd_ hy.gr;have hz:=hy.sz;have hlt:=gZ_ hy.nd;have hgh:=hy.lt
 clear hy k1
 go_wp2_with (first
  | (go_at_call 86;(fail_if_success have z:=T0);refine (iH_ 2 _).mono ?_;rintro e w3 ⟨A_O,c_O,rfl,hn,hB⟩;have HV_O:=hd_ (hn.less hz);have HM:=hd_ (HM.out.past hB);have y0:=(hB.cell (p:=⟨h,0,none⟩) hlt).trans y0;have y1:=(hB.cell (p:=⟨h,1,none⟩) hlt).trans y1;have y2:=(hB.cell (p:=⟨h,2,none⟩) hlt).trans y2;have HG:=hd_ (a1_ HG.out hB);have hz:=Nat.le_trans hz hB.size;have hlt:=Nat.lt_of_lt_of_le hlt hB.size;clear hn hB;have T0:=hd_ True.intro)
  | (go_at_call 42;(fail_if_success have z:=T1);have z:=T0;clear z;refine (HD.out _ HM.out).mono ?_;rintro e w4 ⟨A_d,c_d,rfl,hn,hm,hG⟩;have HV_d:=hd_ (hn.less hz);have HM:=hd_ hm;have HV_O:=hd_ (HV_O.out.grow hG (fun k e=>by injection e with e;omega));have y0:=(hG.cell y0 (by simp;omega));have y1:=(hG.cell y1 (by simp;omega));have y2:=(hG.cell y2 (by simp;omega));have HG:=hd_ (a0_ HG.out hG);have hz:=Nat.le_trans hz hG.size;have hlt:=Nat.lt_of_lt_of_le hlt hG.size;clear hn hm hG;have T1:=hd_ True.intro)
  | (go_at_call 80;(fail_if_success have z:=T2);have z:=T1;clear z;refine (e3_ ⟨#[59]⟩ (by decide) _).mono ?_;rintro e w5 ⟨A_S,c_S,rfl,hn,hB⟩;have HV_S:=hd_ (hn.less hz);have HM:=hd_ (HM.out.past hB);have HV_O:=hd_ (HV_O.out.past hB);have HV_d:=hd_ (HV_d.out.past hB);have y0:=(hB.cell (p:=⟨h,0,none⟩) hlt).trans y0;have y1:=(hB.cell (p:=⟨h,1,none⟩) hlt).trans y1;have y2:=(hB.cell (p:=⟨h,2,none⟩) hlt).trans y2;have HG:=hd_ (a1_ HG.out hB);have hz:=Nat.le_trans hz hB.size;have hlt:=Nat.lt_of_lt_of_le hlt hB.size;clear hn hB;have T2:=hd_ True.intro)
  | (go_at_call 85;(fail_if_success have z:=T3);have z:=T2;clear z;refine (cX_ _ _ _ _ _ _ _ HV_d.out.1 HV_S.out.1 (by (repeat (first|rw [aJ_]|rw [aO_]|rw [aX_]|rw [aL_]|rw [aE_]));omega)).mono ?_;rintro e w6 ⟨A_F,c_F,rfl,hn,hB⟩;have HV_F:=hd_ (hn.less hz);have HM:=hd_ (HM.out.past hB);have HV_O:=hd_ (HV_O.out.past hB);have y0:=(hB.cell (p:=⟨h,0,none⟩) hlt).trans y0;have y1:=(hB.cell (p:=⟨h,1,none⟩) hlt).trans y1;have y2:=(hB.cell (p:=⟨h,2,none⟩) hlt).trans y2;have HG:=hd_ (a1_ HG.out hB);have hz:=Nat.le_trans hz hB.size;have hlt:=Nat.lt_of_lt_of_le hlt hB.size;clear hn hB;have T3:=hd_ True.intro)
  | (go_at_call 85;(fail_if_success have z:=T4);have z:=T3;clear z;refine (cX_ _ _ _ _ _ _ _ HV_O.out.1 HV_F.out.1 (by (repeat (first|rw [aJ_]|rw [aO_]|rw [aX_]|rw [aL_]|rw [aE_]));omega)).mono ?_;rintro e w7 ⟨A_G,c_G,rfl,hn,hB⟩;have HV_G:=hd_ (hn.less hz);have HM:=hd_ (HM.out.past hB);have y0:=(hB.cell (p:=⟨h,0,none⟩) hlt).trans y0;have y1:=(hB.cell (p:=⟨h,1,none⟩) hlt).trans y1;have y2:=(hB.cell (p:=⟨h,2,none⟩) hlt).trans y2;have HG:=hd_ (a1_ HG.out hB);have hz:=Nat.le_trans hz hB.size;have hlt:=Nat.lt_of_lt_of_le hlt hB.size;clear hn hB;have T4:=hd_ True.intro)
  | (go_at_call 84;(fail_if_success have z:=T5);have z:=T4;clear z;refine (n3_ _ _ _ _ HV_G.out.1 (by (repeat (first|rw [aJ_]|rw [aO_]|rw [aX_]|rw [aL_]|rw [aE_]));omega)).mono ?_;rintro e w8 ⟨A_H,c_H,rfl,hn,hB⟩;have HV_H:=hd_ (hn.less hz);have HM:=hd_ (HM.out.past hB);have y0:=(hB.cell (p:=⟨h,0,none⟩) hlt).trans y0;have y1:=(hB.cell (p:=⟨h,1,none⟩) hlt).trans y1;have y2:=(hB.cell (p:=⟨h,2,none⟩) hlt).trans y2;have HG:=hd_ (a1_ HG.out hB);have hz:=Nat.le_trans hz hB.size;have hlt:=Nat.lt_of_lt_of_le hlt hB.size;clear hn hB;have T5:=hd_ True.intro)
  | (go_at_call 80;(fail_if_success have z:=T6);have z:=T5;clear z;refine (e3_ _ HSZ.out _).mono ?_;rintro e w9 ⟨A_W,c_W,rfl,hn,hB⟩;have HV_W:=hd_ (hn.less hz);have HM:=hd_ (HM.out.past hB);have HV_H:=hd_ (HV_H.out.past hB);have y0:=(hB.cell (p:=⟨h,0,none⟩) hlt).trans y0;have y1:=(hB.cell (p:=⟨h,1,none⟩) hlt).trans y1;have y2:=(hB.cell (p:=⟨h,2,none⟩) hlt).trans y2;have HG:=hd_ (a1_ HG.out hB);have hz:=Nat.le_trans hz hB.size;have hlt:=Nat.lt_of_lt_of_le hlt hB.size;clear hn hB;have T6:=hd_ True.intro)
  | (go_at_call 85;(fail_if_success have z:=T7);have z:=T6;clear z;refine (cX_ _ _ _ _ _ _ _ HV_W.out.1 HV_H.out.1 (by (repeat (first|rw [aJ_]|rw [aO_]|rw [aX_]|rw [aL_]|rw [aE_]));omega)).mono ?_;rintro e w10 ⟨A_J,c_J,rfl,hn,hB⟩;have HV_J:=hd_ (hn.less hz);have HM:=hd_ (HM.out.past hB);have y0:=(hB.cell (p:=⟨h,0,none⟩) hlt).trans y0;have y1:=(hB.cell (p:=⟨h,1,none⟩) hlt).trans y1;have y2:=(hB.cell (p:=⟨h,2,none⟩) hlt).trans y2;have HG:=hd_ (a1_ HG.out hB);have hz:=Nat.le_trans hz hB.size;have hlt:=Nat.lt_of_lt_of_le hlt hB.size;clear hn hB;have T7:=hd_ True.intro)
  | (go_at_call 87;(fail_if_success have z:=T8);have z:=T7;clear z;refine (lY_ _ _ _ _ HV_J.out.1 (by (repeat (first|rw [aJ_]|rw [aO_]|rw [aX_]|rw [aL_]|rw [aE_]));omega)).mono ?_;rintro e w11 ⟨A_R,c_R,rfl,hn,hB⟩;have HV_R:=hd_ (hn.less hz);have HM:=hd_ (HM.out.past hB);have y0:=(hB.cell (p:=⟨h,0,none⟩) hlt).trans y0;have y1:=(hB.cell (p:=⟨h,1,none⟩) hlt).trans y1;have y2:=(hB.cell (p:=⟨h,2,none⟩) hlt).trans y2;have HG:=hd_ (a1_ HG.out hB);have hz:=Nat.le_trans hz hB.size;have hlt:=Nat.lt_of_lt_of_le hlt hB.size;clear hn hB;have T8:=hd_ True.intro))
 go_ret
 exact ⟨A_R,c_R,rfl,HV_R.out,HM.out,HG.out⟩
theorem agT_ {g c:Nat} {A:Option Addr} {l:List Nd} {i:Nat} {t:ByteArray} {n:Int} {w:World} (hs:d0_ g A c l i w) (hi:i<l.length) (hnd:l[i]=Nd.mk 8 t n) (h40:l.length<=40) {d:List Nd} {z:Nat} (hdl:d.length<=900) (HD:Hid (∀ w',d0_ g A c l (i+1) w'->Calls Tryz.prog 42 #[.pointer (some ⟨g,0,none⟩)] w' (fX_ g A c l d z w'))) :
  Calls Tryz.prog 42 #[.pointer (some ⟨g,0,none⟩)] w (fX_ g A c l (aQ_ d (aV_ ⟨#[59]⟩)) z w):=by
 have k1:IntKind.i64.wrap ((i:Int)+1)=(i:Int)+1:=IntWalk.i64_in _ (by omega)
 obtain ⟨b,off,op,t',n',rfl,hb,hnd',hts,d1,d2,d3⟩:=hs.nds.node (Below.refl _ _) hi
 rw [hnd] at hnd'
 cases hnd'
 have hgl:=hs.lt
 obtain ⟨c0,c1,f1⟩:=hs.cells
 have HS:=hd_ hs
 have hbw:b<w.heap.size:=by omega
 clear hs hnd
 go_enter Tryz.func42,Tryz.ntmps42
 go_wp2
 go_region
 go_upto_region 3 with (fail)
 obtain ⟨h,hh⟩:∃ h,h=w.heap.size:=⟨_,rfl⟩
 rw [← hh]
 refine gY_ (fun wy=>MkN g h (some ⟨b,off,none⟩) c l (i+1) 8 t n w wy) ?named ?_
 case named =>
  exact n7_
 clear hh c0 c1 f1 d1 d2 d3 HS
 rintro wy hy
 obtain ⟨y0,y1,y2⟩:=hy.cells
 have HM:=hd_ hy.st;have HG:=hd_ hy.gr;have hz:=hy.sz;have hlt:=gZ_ hy.nd;have hgh:=hy.lt
 clear hy k1
 go_wp2_with (first
  | (go_at_call 42;(fail_if_success have z:=T0);refine (HD.out _ HM.out).mono ?_;rintro e w3 ⟨A_d,c_d,rfl,hn,hm,hG⟩;have HV_d:=hd_ (hn.less hz);have HM:=hd_ hm;have HG:=hd_ (a0_ HG.out hG);have hz:=Nat.le_trans hz hG.size;clear hn hm hG;have T0:=hd_ True.intro)
  | (go_at_call 80;(fail_if_success have z:=T1);have z:=T0;clear z;refine (e3_ ⟨#[59]⟩ (by decide) _).mono ?_;rintro e w4 ⟨A_S,c_S,rfl,hn,hB⟩;have HV_S:=hd_ (hn.less hz);have HM:=hd_ (HM.out.past hB);have HV_d:=hd_ (HV_d.out.past hB);have HG:=hd_ (a1_ HG.out hB);have hz:=Nat.le_trans hz hB.size;clear hn hB;have T1:=hd_ True.intro)
  | (go_at_call 85;(fail_if_success have z:=T2);have z:=T1;clear z;refine (cX_ _ _ _ _ _ _ _ HV_d.out.1 HV_S.out.1 (by (repeat (first|rw [aJ_]|rw [aO_]|rw [aX_]|rw [aL_]|rw [aE_]));omega)).mono ?_;rintro e w5 ⟨A_R,c_R,rfl,hn,hB⟩;have HV_R:=hd_ (hn.less hz);have HM:=hd_ (HM.out.past hB);have HG:=hd_ (a1_ HG.out hB);have hz:=Nat.le_trans hz hB.size;clear hn hB;have T2:=hd_ True.intro))
 go_ret
 exact ⟨A_R,c_R,rfl,HV_R.out,HM.out,HG.out⟩
theorem ab7_ {g c:Nat} {A:Option Addr} {l:List Nd} (hT:Tr l):∀ f,jS_ g A c l f:=by
 intro f
 induction f with
 | zero=>intro i w hs hi hf;omega
 | succ f ih =>
 intro i w hs hi hf h9
 have hk:=hT.kidsP hi
 have hone:=hT.one _ (List.getElem_mem hi)
 have hmm:(bC_ l).getD i 0=(bK_ l[i].op l[i].n).toNat:=gX_ hi rfl
 rw [hmm] at hk
 clear hmm
 have hoe:aW_ l i=l[i].op:=by rw [aW_,bF_ hi]
 rw [hoe] at h9
 clear hoe
 obtain ⟨op,t,n,hnd⟩:∃ op t n,l[i]=Nd.mk op t n:=⟨_,_,_,rfl⟩
 rw [hnd] at hone hk h9
 simp only at hone hk h9
 have hop:1<=op/\op<=8:=by
  by_cases hc:op<1∨9<op
  ·rw [a8_,if_pos (by rcases hc with h|h;exact .inl h;exact .inr (.inl h))] at hone;cases hone
  ·omega
 have hnm:dP_ op=true->t.size<=8:=fun h=>(g2_ (fV_ hone h h9)).2.1
 have hn6:=hM_ hone
 have hm40:=hT.len
 have hcs:op=1∨op=2∨op=3∨op=4∨op=5∨op=6∨op=7∨op=8:=by omega
 rcases hcs with rfl|rfl|rfl|rfl|rfl|rfl|rfl|rfl
 ·obtain ⟨n0,n1⟩:=mL_ hone
  rw [show (bK_ 1 n).toNat=0 from rfl,dR_] at hk
  rw [← hk]
  rw [show aG_ l (f+1) i=aV_ ⟨(Lib.itoa n).toArray⟩ by
   rw [aG_,bF_ hi,hnd]
   simp only [if_true]]
  exact agM_ hs hi hnd hm40 n0 n1
 ·rw [show (bK_ 2 n).toNat=0 from rfl,dR_] at hk
  rw [← hk]
  rw [show aG_ l (f+1) i=aV_ t by
   rw [aG_,bF_ hi,hnd]
   simp only [show ¬ (2:Int)=1 by decide,if_false,if_true]]
  exact agN_ hs hi hnd hm40
 ·rw [show bK_ 3 n=n from rfl] at hk hn6
  obtain ⟨m,rfl⟩:∃ m:Nat,n=m:=⟨n.toNat,by omega⟩
  rw [Int.toNat_natCast] at hk
  rw [show aG_ l (f+1) i=dE_ (t++⟨#[40]⟩) ⟨#[41]⟩ m (bU_ (aG_ l f) (a7_ l) (i+1) m) by
   rw [aG_,bF_ hi,hnd]
   simp only [show ¬ (3:Int)=1 by decide,show ¬ (3:Int)=2 by decide,if_false,if_true,Int.toNat_natCast]]
  exact agO_ hs hi hnd hm40 (hnm rfl) (hd_ (fun w' hs'=>oL_ hT ih 3 m (i+1) (a7_ l i) m t _ _ w' (by decide) rfl (by omega) hk (by omega) (by omega) (by omega) hs' (by rw [ByteArray.size_append];have:=hnm rfl;show t.size+1<=100;omega) (by decide)))
 ·rw [show bK_ 4 n=n from rfl] at hk hn6
  obtain ⟨m,rfl⟩:∃ m:Nat,n=m:=⟨n.toNat,by omega⟩
  rw [Int.toNat_natCast] at hk
  rw [show aG_ l (f+1) i=dE_ ⟨#[91]⟩ ⟨#[93]⟩ m (bU_ (aG_ l f) (a7_ l) (i+1) m) by
   rw [aG_,bF_ hi,hnd]
   simp only [show ¬ (4:Int)=1 by decide,show ¬ (4:Int)=2 by decide,show ¬ (4:Int)=3 by decide,if_false,if_true,Int.toNat_natCast]]
  exact agP_ hs hi hnd hm40 (hd_ (fun w' hs'=>oL_ hT ih 4 m (i+1) (a7_ l i) m t _ _ w' (by decide) rfl (by omega) hk (by omega) (by omega) (by omega) hs' (by decide) (by decide)))
 ·rw [show (bK_ 5 n).toNat=2 from rfl] at hk
  rw [show aG_ l (f+1) i=i4_ ⟨#[43,32]⟩ (d8_ 5 (aW_ l (i+1)) false (aG_ l f (i+1))) (d8_ 5 (aW_ l (a7_ l (i+1))) true (aG_ l f (a7_ l (i+1)))) by
   rw [aG_,bF_ hi,hnd]
   simp only [show ¬ (5:Int)=1 by decide,show ¬ (5:Int)=2 by decide,show ¬ (5:Int)=3 by decide,show ¬ (5:Int)=4 by decide,if_false,if_true]]
  exact agQ_ hs hi hnd hm40 (hd_ (fun w' hs'=>uW_ hT ih 5 n (i+1) (a7_ l i) t _ w' hk (by omega) (by omega) hs' (by decide)))
 ·rw [show (bK_ 6 n).toNat=2 from rfl] at hk
  rw [show aG_ l (f+1) i=i4_ ⟨#[42,32]⟩ (d8_ 6 (aW_ l (i+1)) false (aG_ l f (i+1))) (d8_ 6 (aW_ l (a7_ l (i+1))) true (aG_ l f (a7_ l (i+1)))) by
   rw [aG_,bF_ hi,hnd]
   simp only [show ¬ (6:Int)=1 by decide,show ¬ (6:Int)=2 by decide,show ¬ (6:Int)=3 by decide,show ¬ (6:Int)=4 by decide,show ¬ (6:Int)=5 by decide,if_false,if_true]]
  exact agR_ hs hi hnd hm40 (hd_ (fun w' hs'=>uW_ hT ih 6 n (i+1) (a7_ l i) t _ w' hk (by omega) (by omega) hs' (by decide)))
 ·rw [show (bK_ 7 n).toNat=1 from rfl] at hk
  obtain ⟨q1,q2,q3⟩:i+1<l.length/\i+1<a7_ l (i+1)/\a7_ l (i+1)=a7_ l i:=⟨hk.1,hk.2.1,hk.2.2⟩
  rw [show aG_ l (f+1) i=bZ_ (aQ_ (aV_ (⟨#[108,101,116,32]⟩++t++⟨#[32,61]⟩)) (d7_ (aQ_ (opN 2) (aQ_ (aG_ l f (i+1)) (aV_ ⟨#[59]⟩))))) by
   rw [aG_,bF_ hi,hnd]
   simp only [show ¬ (7:Int)=1 by decide,show ¬ (7:Int)=2 by decide,show ¬ (7:Int)=3 by decide,show ¬ (7:Int)=4 by decide,show ¬ (7:Int)=5 by decide,show ¬ (7:Int)=6 by decide,if_false,if_true]]
  have h99:=l5_ hT q1 (by omega)
  have hI:=fun w' hs'=>ih (i+1) w' hs' q1 (by omega) h99
  rw [q3] at hI
  exact agS_ hs hi hnd hm40 (hnm rfl) (fT_ hT (f:=f) (by omega) q1 h99) (hd_ hI)
 ·rw [show (bK_ 8 n).toNat=1 from rfl] at hk
  obtain ⟨q1,q2,q3⟩:i+1<l.length/\i+1<a7_ l (i+1)/\a7_ l (i+1)=a7_ l i:=⟨hk.1,hk.2.1,hk.2.2⟩
  rw [show aG_ l (f+1) i=aQ_ (aG_ l f (i+1)) (aV_ ⟨#[59]⟩) by
   rw [aG_,bF_ hi,hnd]
   simp only [show ¬ (8:Int)=1 by decide,show ¬ (8:Int)=2 by decide,show ¬ (8:Int)=3 by decide,show ¬ (8:Int)=4 by decide,show ¬ (8:Int)=5 by decide,show ¬ (8:Int)=6 by decide,show ¬ (8:Int)=7 by decide,if_false,if_false]]
  have h99:=l5_ hT q1 (by omega)
  have hI:=fun w' hs'=>ih (i+1) w' hs' q1 (by omega) h99
  rw [q3] at hI
  exact agT_ hs hi hnd hm40 (fT_ hT (f:=f) (by omega) q1 h99) (hd_ hI)
theorem k5_ (l:List Nd) (A:Option Addr) (c:Nat) (w:World) (hl:Nds w w.heap.size A l) (hsh:d6_ l) (hm:cU_ w) (h:aY_ l=0) :
  Calls Tryz.prog 41 #[.slice A l.length c] w (Ret w .nilIface):=by rw [dN_ h];exact jK_ l A c w hl hsh hm
theorem q1_ (l:List Nd) (A:Option Addr) (c:Nat) (w:World) (hl:Nds w w.heap.size A l) (hsh:d6_ l) (hm:cU_ w) (h:aY_ l≠0) :
  Calls Tryz.prog 41 #[.slice A l.length c] w (Ret w (.iface 43 (.int .i64 (aY_ l)))):=by rw [bQ_ h];exact jK_ l A c w hl hsh hm
theorem Tr.pos0 {l:List Nd} (h:Tr l):0<l.length:=by
 have h1:=h.root
 rcases Nat.eq_zero_or_pos l.length with h2|h2
 ·rw [fE_ (by omega)] at h1;cases h1
 ·exact h2
theorem Nds.head0 {w:World} {A:Option Addr} {l:List Nd} (hN:Nds w w.heap.size A l) (h0:0<l.length) :
  ∃ b off op t n,A=some ⟨b,off,none⟩/\b<w.heap.size/\aW_ l 0=op/\l[0]=Nd.mk op t n/\t.size<=maxLen/\w.cell? ⟨b,off,none⟩=some (.int .i64 op)/\w.cell? ⟨b,off+1,none⟩=some (.string t):=by
 obtain ⟨b,off,op,t,n,h1,h2,h3,h4,h5,h6,_⟩:=hN.node (Below.refl _ _) h0
 exact ⟨b,off,op,t,n,h1,h2,by rw [aW_,bF_ h0,h3],h3,h4,by simpa using h5,by simpa using h6⟩
def LdTo (d:List Nd) (w:World) (e:Ending) (w':World):Prop:=∃ A c,e=.returned (.tuple #[.slice A d.length c,.nilIface])/\NdF w.heap.size w' A d/\Below w.heap.size w w'
def e6_ (l:List Nd):List Nd:=aG_ l l.length 0
theorem akT_ (l:List Nd) (A:Option Addr) (c:Nat) (w:World) (hl:Nds w w.heap.size A l) (hsh:d6_ l) (hm:cU_ w) (h:aY_ l≠0) :
  Calls Tryz.prog 13 #[.slice A l.length c] w (Ret w (.tuple #[.slice none 0 0,.iface 43 (.int .i64 (aY_ l))])):=by
 have HK:=hd_ (q1_ l A c w hl hsh hm h)
 clear hl hsh hm h
 go_enter Tryz.func13,Tryz.ntmps13
 go_wp2_with (go_at_call 41;refine HK.out.mono ?_;rintro e w1 ⟨rfl,hB1⟩)
 go_ret2
 exact ⟨rfl,hB1⟩
theorem mU_ {w w1:World} {g:Nat} {o:Obj} (hg:w.heap.size=g) (h:(w.alloc o).grownBy w1 (some g)):Below w.heap.size w w1 :=
 ((Below.refl w.heap.size w).alloc (Nat.le_refl _) o).grown h (by simp) (fun k e=>by injection e with e;omega)
theorem s0_ (l:List Nd) (A:Option Addr) (c:Nat) (w:World) (hl:Nds w w.heap.size A l) (hsh:d6_ l) (hm:cU_ w) (hp:fB_ w) (h:aY_ l=0) (h9:aW_ l 0≠9) :
  (¬ 400<(e6_ l).length->Calls Tryz.prog 13 #[.slice A l.length c] w (LdTo (e6_ l) w)) /\
  (400<(e6_ l).length->Calls Tryz.prog 13 #[.slice A l.length c] w (Ret w (.tuple #[.slice none 0 0,.iface 43 (.int .i64 3)]))):=by
 have HK:=hd_ (k5_ l A c w hl hsh hm h)
 have hT:=Tr.of_check h
 have h0:=hT.pos0
 have HMK:=hd_ (fun (g:Nat) w' (hs:d0_ g A c l 0 w')=>ab7_ hT l.length 0 w' hs h0 (by omega) h9)
 have hds:=fT_ hT (f:=l.length) (by omega) h0 h9
 have HST:Hid (∀ w1,Below w.heap.size w w1->d0_ w1.heap.size A c l 0 (w1.alloc (.cells #[.slice A l.length c,.int .i64 (0:Nat)] 90))):=hd_ (fun w1 hB=>by
  have hp1:=hp.past hB
  refine ⟨aN_ rfl,(hl.past hB).mkunder ((Below.refl _ _).alloc (Nat.le_refl _) _) (Nat.le_refl _),hp1.past ((Below.refl _ _).alloc (Nat.le_refl _) _),hp1.lt⟩)
 obtain ⟨b,off,op,t,n,rfl,hb,ho,hnd,hts,d1,d2⟩:=hl.head0 h0
 have ho9:(op==9)=false:=by rw [← ho];simpa using h9
 have hlen:=hl.2.1
 unfold maxLen at hlen
 rw [show aG_ l l.length 0=e6_ l from rfl] at HMK hds
 generalize e6_ l=d at *
 generalize a7_ l 0=z at *
 clear hl hsh hm h ho hnd h9 hT hp
 constructor
 ·intro h400
  go_enter Tryz.func13,Tryz.ntmps13
  go_wp2_with (first
   | (go_at_call 41;refine HK.out.mono ?_;rintro e w1 ⟨rfl,hB1⟩;have e1:=(hB1.cell (p:=⟨b,off,none⟩) hb).trans d1;have HS:=hd_ (HST.out w1 hB1))
   | (go_at_call 42;refine (HMK.out w1.heap.size _ HS.out).mono ?_;rintro e w2 ⟨A2,c2,rfl,hn,hm2,hG⟩;have hB2:=mU_ rfl hG;have hz:=hB1.size;have HN:=hd_ (hn.less (lo':=w.heap.size) (by simp;omega));clear hn hm2 hG))
  go_ret2
  exact ⟨A2,c2,rfl,HN.out,hB1.trans (hB2.mono hz)⟩
 ·intro h400
  go_enter Tryz.func13,Tryz.ntmps13
  go_wp2_with (first
   | (go_at_call 41;refine HK.out.mono ?_;rintro e w1 ⟨rfl,hB1⟩;have e1:=(hB1.cell (p:=⟨b,off,none⟩) hb).trans d1;have HS:=hd_ (HST.out w1 hB1))
   | (go_at_call 42;refine (HMK.out w1.heap.size _ HS.out).mono ?_;rintro e w2 ⟨A2,c2,rfl,hn,hm2,hG⟩;have hB2:=mU_ rfl hG;have hz:=hB1.size;clear hn hm2 hG))
  go_ret2
  exact ⟨rfl,hB1.trans (hB2.mono hz)⟩
end Go.Proofs.YtddfdmopaeghnacGreatDoor
namespace Go.Proofs.YtddfdmopaeghnacGreatDoor
theorem Flt.doc {ns:List Nd} {t:ByteArray} (h:Flt ns t) (hl:ns.length<=400):∃ x,Doc ns x/\x.flat=some t/\∀ d ∈ x.enc,d.op≠9:=by
 obtain ⟨x,h1,h2,h3,h4,h5⟩:=h
 exact ⟨x,⟨h1,h2.symm,h4,hl⟩,h3,by rw [h2];exact h5⟩
theorem n0_ {l:List Nd} (h:aY_ l=0) (h9:aW_ l 0≠9):Flt (e6_ l) (kL_ l):=by
 have hT:=Tr.of_check h
 have h0:=hT.pos0
 have hoe:aW_ l 0=(l[0]'h0).op:=by rw [aW_,bF_ h0]
 exact rQ_ hT l.length 0 (by omega) hT.pos0 (by rw [← hoe];exact h9)
end Go.Proofs.YtddfdmopaeghnacGreatDoor
