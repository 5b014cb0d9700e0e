/- Walks of lay's maker (printed by wip/genmk. With what it rests on. Conditions: as each theorem states them. -/
import Derived.Test.YtddfdmopaeghnadGreatDoorRqCa
import Derived.Deep.RegionHeld3
import Derived.Deep.RegionWith
import Derived.Test.YtddfdmopaeghnadGreatDoorRqSh
import Derived.Shelf.Strings.Builder1
import Derived.Test.YtddfdmopaeghnadGreatDoorRqMm
import Derived.Test.YtddfdmopaeghnadGreatDoorRows
import Derived.Defers
import Derived.Test.YtddfdmopaeghnadGreatDoorRqMk
import Derived.Deep.Cut
import Derived.Test.YtddfdmopaeghnadGreatDoorRqTr
set_option maxRecDepth 100000
set_option maxHeartbeats 16000000
namespace Go.Proofs.YtddfdmopaeghnadGreatDoor
open Go.RowKit
theorem mkheap_lt {w:World} {g:Nat} {o:Obj} (h:w.heap[g]?=some o):g<w.heap.size:=(Array.getElem?_eq_some_iff.1 h).1
theorem Nds.mkunder {w w':World} {B C:Nat} {A:Option Addr} {l:List Nd} (h:Nds w B A l) (hb:Below C w w') (hC:B<=C):Nds w' B A l:=⟨h.1.below hb hC,h.2⟩
theorem set_belowM (w:World) (g j:Nat) (v:Value):Below g w (w.setCell ⟨g,j,none⟩ v):=(Below.refl g w).setCell (p:=⟨g,j,none⟩) (Nat.le_refl _) v
theorem grown_setM (w:World) (g j:Nat) (v:Value):w.grownBy (w.setCell ⟨g,j,none⟩ v) (some g):=⟨rfl,rfl,rfl,by simp [World.setCell],fun k _ hn=>Below.heap_setCell _ _ _ _ (fun e=>hn (by rw [e]))⟩
theorem mk_named {P:Program} {c:Code} {Q:Exit->Act->World->Prop} {a:Act} {w:World} (S:World->Prop) (hS:S w) (h:∀ w',S w'->Code.wp P c Q a w'):Code.wp P c Q a w:=h w hS
def PowT (w : World) : Prop := Lib.TabIs Tryz.prog w "internal/strconv.uint64pow10" .u64 Lib.pow10Tab
theorem PowT.keep {w w':World} (h:PowT w) (hb:w'.heap[4]?=w.heap[4]?):PowT w':=by
 have hgn : Tryz.prog.globalNamed "internal/strconv.uint64pow10" = some 4 := by kernel_rfl
 unfold PowT Lib.TabIs World.var? at h ⊢
 rw [hgn] at h ⊢
 simp only [Option.bind_some] at h ⊢
 rw [hb]
 exact h
theorem PowT.lt {w:World} (h:PowT w):4<w.heap.size:=by
 have hgn : Tryz.prog.globalNamed "internal/strconv.uint64pow10" = some 4 := by kernel_rfl
 unfold PowT Lib.TabIs World.var? at h
 rw [hgn] at h
 simp only [Option.bind_some] at h
 rcases Nat.lt_or_ge 4 w.heap.size with h'|h'
 ·exact h'
 ·rw [Array.getElem?_eq_none h'] at h;cases h
theorem PowT.past {w w':World} (h:PowT w) (hb:Below w.heap.size w w'):PowT w':=h.keep (hb.block _ h.lt)
theorem below_growD (w:World) (k:Nat) (os:Array Obj):Below w.heap.size w (Go.Sort.grow (w.drewN k) os):=by
 refine below_undrewN (n:=k) ⟨rfl,rfl,rfl, ?_,fun j hj=>?_⟩
 ·simp [Go.Sort.grow]
 ·simp only [Go.Sort.grow]
  rw [Array.getElem?_append_left (by simpa using hj)]
theorem litoa_any {n:Int} (h0:0<=n) (h1:n<=999999) (w:World) (hp:PowT w):Calls Tryz.prog 71 #[.int .i64 n] w (Ret w (.string ⟨(Lib.itoa n).toArray⟩)):=by
 refine (Tryz.strconv_Itoa n (by omega) (by omega) w hp).mono ?_
 rintro e w' ⟨rfl,k,os,rfl⟩
 exact ⟨rfl,below_growD w k os⟩
structure MkSt (g:Nat) (A:Option Addr) (c:Nat) (l:List Nd) (i:Nat) (w:World):Prop where
 blk:w.heap[g]?=some (.cells #[.slice A l.length c,.int .i64 (i:Nat)] 160 (0,0))
 nds:Nds w g A l
 pow:PowT w
 glob:4<g
section
variable {g c i:Nat} {A:Option Addr} {l:List Nd} {w w':World}
theorem MkSt.lt (h:MkSt g A c l i w):g<w.heap.size:=mkheap_lt h.blk
theorem MkSt.past (h:MkSt g A c l i w) (hb:Below w.heap.size w w'):MkSt g A c l i w':=⟨(hb.block g h.lt).trans h.blk,h.nds.mkunder hb (by have:=h.lt;omega),h.pow.keep (hb.block _ (Nat.lt_trans h.glob h.lt)),h.glob⟩
theorem MkSt.cells (h:MkSt g A c l i w):w.cell? ⟨g,0,none⟩=some (.slice A l.length c)/\w.cell? ⟨g,1,none⟩=some (.int .i64 (i:Nat))/\w.frozen? ⟨g,1,none⟩=false:=by
 refine ⟨?_, ?_,Lib.frozen_of_heap h.blk 1⟩ <;> rw [Lib.cell_of_heap h.blk] <;> rfl
theorem MkSt.set (h:MkSt g A c l i w) (j:Nat) {v:Int} (hv:v=j):MkSt g A c l j (w.setCell ⟨g,1,none⟩ (.int .i64 v)):=by
 subst hv
 exact ⟨by simp [World.setCell,Array.getElem?_modify,h.blk],h.nds.mkunder (set_belowM _ _ _ _) (Nat.le_refl _),h.pow.keep (Below.heap_setCell _ _ _ _ (Nat.ne_of_lt h.glob)),h.glob⟩
theorem MkSt.drew (h:MkSt g A c l i w):MkSt g A c l i w.drew:=h.past (Below.refl _ _).drew
end
theorem grown_row {w w':World} (row:Option Nat) (hb:Below w.heap.size w w'):w.grownBy w' row:=⟨hb.os,hb.tape,hb.output,hb.size,fun k hk _=>hb.block k hk⟩
def MkTo (g:Nat) (A:Option Addr) (c:Nat) (l:List Nd) (d:List Nd) (z:Nat) (w:World) (e:Ending) (w':World):Prop :=
 ∃ A' c',e=.returned (.slice A' d.length c')/\NdF w.heap.size w' A' d/\MkSt g A c l z w'/\w.grownBy w' (some g)
def MakeSaid (g:Nat) (A:Option Addr) (c:Nat) (l:List Nd) (f:Nat):Prop :=
 ∀ (i:Nat) (w:World),MkSt g A c l i w->i<l.length->l.length<=i+f->opAt l i≠9->Calls Tryz.prog 87 #[.pointer (some ⟨g,0,none⟩)] w (MkTo g A c l (docT l f i) (tEnd l i) w)
theorem doc_small {l:List Nd} (hT:Tr l) {f i:Nat} (hf:l.length<=i+f) (hi:i<l.length) (h9:opAt l i≠9):(docT l f i).length<=900:=by
 have h1:opAt l i=l[i].op:=by rw [opAt,getD_at hi]
 have h2:=docT_len hT f i hf hi (by omega)
 have h3:=tEnd_bd hi
 have h4:=hT.len
 omega
theorem low_at {l:List Nd} (hT:Tr l) {i:Nat} (hi:i<l.length) (h0:0<i):opAt l i≠9:=by
 have h1:opAt l i=l[i].op:=by rw [opAt,getD_at hi]
 have:=hT.low hi h0
 omega
theorem kids_small {l:List Nd} (hT:Tr l) {f m a z:Nat} (h:KidsP l a m z) (h0:0<a) (hf:l.length<=a+f) (hz:z<=l.length):(kidsD (docT l f) (tEnd l) a m).length<=900:=by
 have h1:=(kidsD_len (g:=docT l f) m a z h (fun b hb hl=>docT_len hT f b (by omega) hl (by have:=hT.low hl (by omega);omega))).2
 have h4:=hT.len
 omega
theorem kidsP_le {l:List Nd}:∀ {m a z:Nat},KidsP l a m z->a<=l.length->a<=z/\z<=l.length:=by
 intro m
 induction m with
 | zero=>intro a z h ha;rw [KidsP] at h;omega
 | succ m ih =>
  intro a z h ha
  obtain ⟨h1,h2,h3⟩:=h
  have:=ih h3 (tEnd_bd h1).2
  omega
theorem lkid_any {g c f:Nat} {A:Option Addr} {l:List Nd} (hT:Tr l) (ih:MakeSaid g A c l f) (i:Nat) (w:World) (po pn:Int) (pt:ByteArray) (sec:Bool) (hs:MkSt g A c l i w) (hi:i<l.length) (h0:0<i) (hf:l.length<=i+f) :
  Calls Tryz.prog 189 #[.pointer (some ⟨g,0,none⟩),.agg #[.int .i64 po,.string pt,.int .i64 pn],.bool sec] w (MkTo g A c l (kidD po (opAt l i) sec (docT l f i)) (tEnd l i) w):=by
 have h9:=low_at hT hi h0
 have hdl:=doc_small hT hf hi h9
 have HI:=hd_ (fun w' hs'=>ih i w' hs' hi hf h9)
 obtain ⟨b,off,op,t,n,rfl,hb,hnd,hts,d1,d2,d3⟩:=hs.nds.node (Below.refl _ _) hi
 have hoe:opAt l i=op:=by rw [opAt,getD_at hi,hnd]
 rw [hoe]
 generalize docT l f i=d at *
 generalize tEnd l i=z at *
 have hgl:=hs.lt
 obtain ⟨c0,c1,f1⟩:=hs.cells
 have hm:=hT.len
 have HS:=hd_ hs
 have HBD:=hd_ (fun w'=>bound_any po pn op n pt t sec w')
 clear hs hnd hoe ih hT h9 f1 hf
 cases hbd:boundF po op sec with
 | true =>
  rw [hbd] at HBD
  have hk:kidD po op sec d=bothN (wordN ⟨#[40]⟩) (bothN d (wordN ⟨#[41]⟩)):=by simp [kidD,hbd]
  rw [hk]
  clear hk hbd
  go_enter Tryz.func189,Tryz.ntmps189
  go_wp2_with fail
  obtain ⟨wa,hwa⟩:∃ wa,wa=w.alloc (.cells #[.int .i64 po,.string pt,.int .i64 pn] 61):=⟨_,rfl⟩
  have hBa:Below w.heap.size w wa:=by rw [hwa];exact (Below.refl _ _).alloc (Nat.le_refl _) _
  have hza:wa.heap[w.heap.size]?=some (.cells #[.int .i64 po,.string pt,.int .i64 pn] 61 (0,0)):=by rw [hwa];exact heap_new rfl
  rw [← hwa]
  obtain ⟨h,hh⟩:∃ h,h=w.heap.size:=⟨_,rfl⟩
  rw [← hh] at hza
  have hlt:h<wa.heap.size:=(Array.getElem?_eq_some_iff.1 hza).1
  have p0:wa.cell? ⟨h,0,none⟩=some (.int .i64 po):=by rw [Lib.cell_of_heap hza];rfl
  have p1:wa.cell? ⟨h,1,none⟩=some (.string pt):=by rw [Lib.cell_of_heap hza];rfl
  have p2:wa.cell? ⟨h,2,none⟩=some (.int .i64 pn):=by rw [Lib.cell_of_heap hza];rfl
  have hgh:g<h:=by omega
  have HG:Hid (w.grownBy wa (some g)):=hd_ (grown_row _ hBa)
  have hz:w.heap.size<=wa.heap.size:=hBa.size
  have HM:=hd_ (HS.out.past hBa)
  try rw [← hh]
  have hBn:=hBa
  clear hwa hza hh hBa
  obtain ⟨e0,e1,-⟩:=HM.out.cells
  have k0:=(hBn.cell (p:=⟨b,off+i*3,none⟩) (by simp;omega)).trans d1
  have k1:=(hBn.cell (p:=⟨b,off+i*3+1,none⟩) (by simp;omega)).trans d2
  have k2:=(hBn.cell (p:=⟨b,off+i*3+2,none⟩) (by simp;omega)).trans d3
  clear c0 c1 d1 d2 d3
  go_region_held3 (fun w'=>w'.cell? ⟨g,0,none⟩=some (.slice (some ⟨b,off,none⟩) l.length c)/\w'.cell? ⟨g,1,none⟩=some (.int .i64 (i:Nat))/\w'.cell? ⟨h,0,none⟩=some (.int .i64 po)/\w'.cell? ⟨h,1,none⟩=some (.string pt)/\w'.cell? ⟨h,2,none⟩=some (.int .i64 pn)/\w'.cell? ⟨b,off+i*3,none⟩=some (.int .i64 op)/\w'.cell? ⟨b,off+i*3+1,none⟩=some (.string t)/\w'.cell? ⟨b,off+i*3+2,none⟩=some (.int .i64 n))
   (exact ⟨e0,e1,p0,p1,p2,k0,k1,k2⟩)
   (first|(go_at_call 199;refine (HBD.out _).mono ?_;rintro e w1 ⟨rfl,hB⟩;have e0:=(hB.cell (p:=⟨g,0,none⟩) (by simp;omega)).trans e0;have e1:=(hB.cell (p:=⟨g,1,none⟩) (by simp;omega)).trans e1;have p0:=(hB.cell (p:=⟨h,0,none⟩) hlt).trans p0;have p1:=(hB.cell (p:=⟨h,1,none⟩) hlt).trans p1;have p2:=(hB.cell (p:=⟨h,2,none⟩) hlt).trans p2;have k0:=(hB.cell (p:=⟨b,off+i*3,none⟩) (by simp;omega)).trans k0;have k1:=(hB.cell (p:=⟨b,off+i*3+1,none⟩) (by simp;omega)).trans k1;have k2:=(hB.cell (p:=⟨b,off+i*3+2,none⟩) (by simp;omega)).trans k2;have hB:=past_drew hB;have HM:=hd_ (HM.out.past hB);have HG:=hd_ (grown_below HG.out hB);have hz:=Nat.le_trans hz hB.size))
  go_wp2_with (go_at_call 87;refine (HI.out _ HM.out).mono ?_;rintro e w2 ⟨A_d,c_d,rfl,hn,hm2,hG⟩;have HV_d:=hd_ (hn.less hz);have HM:=hd_ hm2;have HG:=hd_ (grown_trans HG.out hG);have hz:=Nat.le_trans hz hG.size;clear hn hm2 hG)
  go_wp2_with (first
   | (go_at_call 147;(fail_if_success have z:=T0);refine (lword_any ⟨#[40]⟩ (by decide) _).mono ?_;rintro e w3 ⟨A_X,c_X,rfl,hn,hB⟩;have HV_X:=hd_ (hn.less hz);have HM:=hd_ (HM.out.past hB);have HV_d:=hd_ (HV_d.out.past hB);have HG:=hd_ (grown_below HG.out hB);have hz:=Nat.le_trans hz hB.size;clear hn hB;have T0:=hd_ True.intro)
   | (go_at_call 147;(fail_if_success have z:=T1);have z:=T0;clear z;refine (lword_any ⟨#[41]⟩ (by decide) _).mono ?_;rintro e w4 ⟨A_Y,c_Y,rfl,hn,hB⟩;have HV_Y:=hd_ (hn.less hz);have HM:=hd_ (HM.out.past hB);have HV_d:=hd_ (HV_d.out.past hB);have HV_X:=hd_ (HV_X.out.past hB);have HG:=hd_ (grown_below HG.out hB);have hz:=Nat.le_trans hz hB.size;clear hn hB;have T1:=hd_ True.intro)
   | (go_at_call 151;(fail_if_success have z:=T2);have z:=T1;clear z;refine (lboth_any _ _ _ _ _ _ _ HV_d.out.1 HV_Y.out.1 (by (repeat (first|rw [bothN_len]|rw [wordN_len]|rw [opN_len]|rw [deepN_len]|rw [groupN_len]));omega)).mono ?_;rintro e w5 ⟨A_Z,c_Z,rfl,hn,hB⟩;have HV_Z:=hd_ (hn.less hz);have HM:=hd_ (HM.out.past hB);have HV_X:=hd_ (HV_X.out.past hB);have HG:=hd_ (grown_below HG.out hB);have hz:=Nat.le_trans hz hB.size;clear hn hB;have T2:=hd_ True.intro)
   | (go_at_call 151;(fail_if_success have z:=T3);have z:=T2;clear z;refine (lboth_any _ _ _ _ _ _ _ HV_X.out.1 HV_Z.out.1 (by (repeat (first|rw [bothN_len]|rw [wordN_len]|rw [opN_len]|rw [deepN_len]|rw [groupN_len]));omega)).mono ?_;rintro e w6 ⟨A_R,c_R,rfl,hn,hB⟩;have HV_R:=hd_ (hn.less hz);have HM:=hd_ (HM.out.past hB);have HG:=hd_ (grown_below HG.out hB);have hz:=Nat.le_trans hz hB.size;clear hn hB;have T3:=hd_ True.intro))
  go_ret
  exact ⟨A_R,c_R,rfl,HV_R.out,HM.out,HG.out⟩
 | false =>
  rw [hbd] at HBD
  have hk:kidD po op sec d=d:=by simp [kidD,hbd]
  rw [hk]
  clear hk hbd
  go_enter Tryz.func189,Tryz.ntmps189
  go_wp2_with fail
  obtain ⟨wa,hwa⟩:∃ wa,wa=w.alloc (.cells #[.int .i64 po,.string pt,.int .i64 pn] 61):=⟨_,rfl⟩
  have hBa:Below w.heap.size w wa:=by rw [hwa];exact (Below.refl _ _).alloc (Nat.le_refl _) _
  have hza:wa.heap[w.heap.size]?=some (.cells #[.int .i64 po,.string pt,.int .i64 pn] 61 (0,0)):=by rw [hwa];exact heap_new rfl
  rw [← hwa]
  obtain ⟨h,hh⟩:∃ h,h=w.heap.size:=⟨_,rfl⟩
  rw [← hh] at hza
  have hlt:h<wa.heap.size:=(Array.getElem?_eq_some_iff.1 hza).1
  have p0:wa.cell? ⟨h,0,none⟩=some (.int .i64 po):=by rw [Lib.cell_of_heap hza];rfl
  have p1:wa.cell? ⟨h,1,none⟩=some (.string pt):=by rw [Lib.cell_of_heap hza];rfl
  have p2:wa.cell? ⟨h,2,none⟩=some (.int .i64 pn):=by rw [Lib.cell_of_heap hza];rfl
  have hgh:g<h:=by omega
  have HG:Hid (w.grownBy wa (some g)):=hd_ (grown_row _ hBa)
  have hz:w.heap.size<=wa.heap.size:=hBa.size
  have HM:=hd_ (HS.out.past hBa)
  try rw [← hh]
  have hBn:=hBa
  clear hwa hza hh hBa
  obtain ⟨e0,e1,-⟩:=HM.out.cells
  have k0:=(hBn.cell (p:=⟨b,off+i*3,none⟩) (by simp;omega)).trans d1
  have k1:=(hBn.cell (p:=⟨b,off+i*3+1,none⟩) (by simp;omega)).trans d2
  have k2:=(hBn.cell (p:=⟨b,off+i*3+2,none⟩) (by simp;omega)).trans d3
  clear c0 c1 d1 d2 d3
  go_region_held3 (fun w'=>w'.cell? ⟨g,0,none⟩=some (.slice (some ⟨b,off,none⟩) l.length c)/\w'.cell? ⟨g,1,none⟩=some (.int .i64 (i:Nat))/\w'.cell? ⟨h,0,none⟩=some (.int .i64 po)/\w'.cell? ⟨h,1,none⟩=some (.string pt)/\w'.cell? ⟨h,2,none⟩=some (.int .i64 pn)/\w'.cell? ⟨b,off+i*3,none⟩=some (.int .i64 op)/\w'.cell? ⟨b,off+i*3+1,none⟩=some (.string t)/\w'.cell? ⟨b,off+i*3+2,none⟩=some (.int .i64 n))
   (exact ⟨e0,e1,p0,p1,p2,k0,k1,k2⟩)
   (first|(go_at_call 199;refine (HBD.out _).mono ?_;rintro e w1 ⟨rfl,hB⟩;have e0:=(hB.cell (p:=⟨g,0,none⟩) (by simp;omega)).trans e0;have e1:=(hB.cell (p:=⟨g,1,none⟩) (by simp;omega)).trans e1;have p0:=(hB.cell (p:=⟨h,0,none⟩) hlt).trans p0;have p1:=(hB.cell (p:=⟨h,1,none⟩) hlt).trans p1;have p2:=(hB.cell (p:=⟨h,2,none⟩) hlt).trans p2;have k0:=(hB.cell (p:=⟨b,off+i*3,none⟩) (by simp;omega)).trans k0;have k1:=(hB.cell (p:=⟨b,off+i*3+1,none⟩) (by simp;omega)).trans k1;have k2:=(hB.cell (p:=⟨b,off+i*3+2,none⟩) (by simp;omega)).trans k2;have hB:=past_drew hB;have HM:=hd_ (HM.out.past hB);have HG:=hd_ (grown_below HG.out hB);have hz:=Nat.le_trans hz hB.size))
  go_wp2_with (go_at_call 87;refine (HI.out _ HM.out).mono ?_;rintro e w2 ⟨A_d,c_d,rfl,hn,hm2,hG⟩;have hn:=hn.less hz;have HN:=hd_ hn;have HM:=hd_ hm2;have HG:=hd_ (grown_trans HG.out hG);clear hn hm2 hG)
  go_ret
  exact ⟨A_d,c_d,rfl,HN.out,HM.out,HG.out⟩
theorem kidD_plain {po ko:Int} {b:Bool} {x:List Nd} (h:po=3∨po=4):kidD po ko b x=x:=by
 have:boundF po ko b=false:=by rcases h with rfl|rfl <;> simp [boundF]
 simp [kidD,this]
theorem lkids_any {g c f:Nat} {A:Option Addr} {l:List Nd} (hT:Tr l) (ih:MakeSaid g A c l f) (po pn:Int) (pt:ByteArray) (hpo:po=3∨po=4) :
  ∀ (m a z:Nat) (w:World),KidsP l a (m+1) z->0<a->l.length<=a+f->MkSt g A c l a w->∀ v:Int,v=(m:Int)+1->v<=100 ->
   Calls Tryz.prog 188 #[.pointer (some ⟨g,0,none⟩),.agg #[.int .i64 po,.string pt,.int .i64 pn],.int .i64 v] w (MkTo g A c l (kidsD (docT l f) (tEnd l) a (m+1)) z w):=by
 intro m
 induction m with
 | zero =>
  intro a z w hP h0 hf hs v hv hv6
  obtain ⟨q1,q2,q3⟩:=hP
  rw [KidsP] at q3
  rw [← q3,show kidsD (docT l f) (tEnd l) a (0+1)=docT l f a by simp [kidsD]]
  have hK:=fun w' hs'=>lkid_any hT ih a w' po pn pt false hs' q1 h0 hf
  simp only [kidD_plain hpo] at hK
  have HK:=hd_ hK
  have hgl:=hs.lt
  have HS:=hd_ hs
  obtain rfl:v=1:=by omega
  generalize docT l f a=d at *
  generalize tEnd l a=z' at *
  clear hK hs hpo ih hT q3 hv
  go_enter Tryz.func188,Tryz.ntmps188
  go_wp2_with fail
  obtain ⟨wa,hwa⟩:∃ wa,wa=w.alloc (.cells #[.int .i64 po,.string pt,.int .i64 pn] 61):=⟨_,rfl⟩
  have hBa:Below w.heap.size w wa:=by rw [hwa];exact (Below.refl _ _).alloc (Nat.le_refl _) _
  have hza:wa.heap[w.heap.size]?=some (.cells #[.int .i64 po,.string pt,.int .i64 pn] 61 (0,0)):=by rw [hwa];exact heap_new rfl
  rw [← hwa]
  obtain ⟨h,hh⟩:∃ h,h=w.heap.size:=⟨_,rfl⟩
  rw [← hh] at hza
  have hlt:h<wa.heap.size:=(Array.getElem?_eq_some_iff.1 hza).1
  have p0:wa.cell? ⟨h,0,none⟩=some (.int .i64 po):=by rw [Lib.cell_of_heap hza];rfl
  have p1:wa.cell? ⟨h,1,none⟩=some (.string pt):=by rw [Lib.cell_of_heap hza];rfl
  have p2:wa.cell? ⟨h,2,none⟩=some (.int .i64 pn):=by rw [Lib.cell_of_heap hza];rfl
  have hgh:g<h:=by omega
  have HG:Hid (w.grownBy wa (some g)):=hd_ (grown_row _ hBa)
  have hz:w.heap.size<=wa.heap.size:=hBa.size
  have HM:=hd_ (HS.out.past hBa)
  try rw [← hh]
  clear hwa hza hh hBa
  go_wp2_with (go_at_call 189;refine (HK.out _ HM.out).mono ?_;rintro e w2 ⟨A_d,c_d,rfl,hn,hm2,hG⟩;have HN:=hd_ (hn.less hz);have HM:=hd_ hm2;have HG:=hd_ (grown_trans HG.out hG);clear hn hm2 hG)
  go_ret
  exact ⟨A_d,c_d,rfl,HN.out,HM.out,HG.out⟩
 | succ m im =>
  intro a z w hP h0 hf hs v hv hv6
  have hzl:=(kidsP_le hP (by have:=hP.1;omega)).2
  obtain ⟨q1,q2,q3⟩:=hP
  have hks:=kids_small (f:=f) hT q3 (by omega) (by omega) hzl
  have hdl:=doc_small hT hf q1 (low_at hT q1 h0)
  rw [show kidsD (docT l f) (tEnd l) a (m+1+1)=bothN (bothN (docT l f a) (wordN ⟨#[44]⟩)) (bothN (opN 2) (kidsD (docT l f) (tEnd l) (tEnd l a) (m+1))) by simp [kidsD]]
  have hK:=fun w' hs'=>lkid_any hT ih a w' po pn pt false hs' q1 h0 hf
  simp only [kidD_plain hpo] at hK
  have HK:=hd_ hK
  have HI:=hd_ (fun w' hs'=>im (tEnd l a) z w' q3 (by omega) (by omega) hs' (v-1) (by omega) (by omega))
  have hgl:=hs.lt
  have HS:=hd_ hs
  have hv1:(v==1)=false:=by simp;omega
  have hv2:2<=v:=by omega
  have kw:IntKind.i64.wrap (v-1)=v-1:=IntWalk.i64_in _ (by omega)
  generalize kidsD (docT l f) (tEnd l) (tEnd l a) (m+1)=K at *
  generalize docT l f a=d at *
  generalize tEnd l a=z' at *
  clear hK hs hpo ih hT q3 hv im
  go_enter Tryz.func188,Tryz.ntmps188
  go_wp2_with fail
  obtain ⟨wa,hwa⟩:∃ wa,wa=w.alloc (.cells #[.int .i64 po,.string pt,.int .i64 pn] 61):=⟨_,rfl⟩
  have hBa:Below w.heap.size w wa:=by rw [hwa];exact (Below.refl _ _).alloc (Nat.le_refl _) _
  have hza:wa.heap[w.heap.size]?=some (.cells #[.int .i64 po,.string pt,.int .i64 pn] 61 (0,0)):=by rw [hwa];exact heap_new rfl
  rw [← hwa]
  obtain ⟨h,hh⟩:∃ h,h=w.heap.size:=⟨_,rfl⟩
  rw [← hh] at hza
  have hlt:h<wa.heap.size:=(Array.getElem?_eq_some_iff.1 hza).1
  have p0:wa.cell? ⟨h,0,none⟩=some (.int .i64 po):=by rw [Lib.cell_of_heap hza];rfl
  have p1:wa.cell? ⟨h,1,none⟩=some (.string pt):=by rw [Lib.cell_of_heap hza];rfl
  have p2:wa.cell? ⟨h,2,none⟩=some (.int .i64 pn):=by rw [Lib.cell_of_heap hza];rfl
  have hgh:g<h:=by omega
  have HG:Hid (w.grownBy wa (some g)):=hd_ (grown_row _ hBa)
  have hz:w.heap.size<=wa.heap.size:=hBa.size
  have HM:=hd_ (HS.out.past hBa)
  try rw [← hh]
  clear hwa hza hh hBa
  go_wp2_with (go_at_call 189;refine (HK.out _ HM.out).mono ?_;rintro e w2 ⟨A_d,c_d,rfl,hn,hm2,hG⟩;have HV_d:=hd_ (hn.less hz);have p0:=hG.cell p0 (by simp;omega);have p1:=hG.cell p1 (by simp;omega);have p2:=hG.cell p2 (by simp;omega);have HM:=hd_ hm2;have HG:=hd_ (grown_trans HG.out hG);have hz:=Nat.le_trans hz hG.size;have hlt:=Nat.lt_of_lt_of_le hlt hG.size;clear hn hm2 hG)
  go_region_held3 (fun w'=>w'.cell? ⟨h,0,none⟩=some (.int .i64 po)/\w'.cell? ⟨h,1,none⟩=some (.string pt)/\w'.cell? ⟨h,2,none⟩=some (.int .i64 pn))
   (exact ⟨p0,p1,p2⟩)
   (first
    | (go_at_call 147;(fail_if_success have z:=T0);refine (lword_any ⟨#[44]⟩ (by decide) _).mono ?_;rintro e w3 ⟨A_X,c_X,rfl,hn,hB⟩;have hB:=past_drew hB;have HV_X:=hd_ (hn.less hz);have HM:=hd_ (HM.out.past hB);have HV_d:=hd_ (HV_d.out.past hB);have p0:=(hB.cell (p:=⟨h,0,none⟩) hlt).trans p0;have p1:=(hB.cell (p:=⟨h,1,none⟩) hlt).trans p1;have p2:=(hB.cell (p:=⟨h,2,none⟩) hlt).trans p2;have HG:=hd_ (grown_below HG.out hB);have hz:=Nat.le_trans hz hB.size;have hlt:=Nat.lt_of_lt_of_le hlt hB.size;clear hn hB;have T0:=hd_ True.intro)
    | (go_at_call 151;(fail_if_success have z:=T1);have z:=T0;clear z;refine (lboth_any _ _ _ _ _ _ _ HV_d.out.1 HV_X.out.1 (by (repeat (first|rw [bothN_len]|rw [wordN_len]|rw [opN_len]|rw [deepN_len]|rw [groupN_len]));omega)).mono ?_;rintro e w4 ⟨A_Y,c_Y,rfl,hn,hB⟩;have HV_Y:=hd_ (hn.less hz);have HM:=hd_ (HM.out.past hB);have p0:=(hB.cell (p:=⟨h,0,none⟩) hlt).trans p0;have p1:=(hB.cell (p:=⟨h,1,none⟩) hlt).trans p1;have p2:=(hB.cell (p:=⟨h,2,none⟩) hlt).trans p2;have HG:=hd_ (grown_below HG.out hB);have hz:=Nat.le_trans hz hB.size;have hlt:=Nat.lt_of_lt_of_le hlt hB.size;clear hn hB;have T1:=hd_ True.intro)
    | (go_at_call 152;(fail_if_success have z:=T2);have z:=T1;clear z;refine (lop_any 2 _).mono ?_;rintro e w5 ⟨A_Z,c_Z,rfl,hn,hB⟩;have HV_Z:=hd_ (hn.less hz);have HM:=hd_ (HM.out.past hB);have HV_Y:=hd_ (HV_Y.out.past hB);have p0:=(hB.cell (p:=⟨h,0,none⟩) hlt).trans p0;have p1:=(hB.cell (p:=⟨h,1,none⟩) hlt).trans p1;have p2:=(hB.cell (p:=⟨h,2,none⟩) hlt).trans p2;have HG:=hd_ (grown_below HG.out hB);have hz:=Nat.le_trans hz hB.size;have hlt:=Nat.lt_of_lt_of_le hlt hB.size;clear hn hB;have T2:=hd_ True.intro)
    | (go_at_call 188;(fail_if_success have z:=T3);have z:=T2;clear z;refine (HI.out _ HM.out).mono ?_;rintro e w6 ⟨A_K,c_K,rfl,hn,hm,hG⟩;have HV_K:=hd_ (hn.less hz);have HM:=hd_ hm;have HV_Y:=hd_ (HV_Y.out.grow hG (fun k e=>by injection e with e;omega));have HV_Z:=hd_ (HV_Z.out.grow hG (fun k e=>by injection e with e;omega));have p0:=(hG.cell p0 (by simp;omega));have p1:=(hG.cell p1 (by simp;omega));have p2:=(hG.cell p2 (by simp;omega));have HG:=hd_ (grown_trans HG.out hG);have hz:=Nat.le_trans hz hG.size;have hlt:=Nat.lt_of_lt_of_le hlt hG.size;clear hn hm hG;have T3:=hd_ True.intro)
    | (go_at_call 151;(fail_if_success have z:=T4);have z:=T3;clear z;refine (lboth_any _ _ _ _ _ _ _ HV_Z.out.1 HV_K.out.1 (by (repeat (first|rw [bothN_len]|rw [wordN_len]|rw [opN_len]|rw [deepN_len]|rw [groupN_len]));omega)).mono ?_;rintro e w7 ⟨A_V,c_V,rfl,hn,hB⟩;have HV_V:=hd_ (hn.less hz);have HM:=hd_ (HM.out.past hB);have HV_Y:=hd_ (HV_Y.out.past hB);have p0:=(hB.cell (p:=⟨h,0,none⟩) hlt).trans p0;have p1:=(hB.cell (p:=⟨h,1,none⟩) hlt).trans p1;have p2:=(hB.cell (p:=⟨h,2,none⟩) hlt).trans p2;have HG:=hd_ (grown_below HG.out hB);have hz:=Nat.le_trans hz hB.size;have hlt:=Nat.lt_of_lt_of_le hlt hB.size;clear hn hB;have T4:=hd_ True.intro)
    | (go_at_call 151;(fail_if_success have z:=T5);have z:=T4;clear z;refine (lboth_any _ _ _ _ _ _ _ HV_Y.out.1 HV_V.out.1 (by (repeat (first|rw [bothN_len]|rw [wordN_len]|rw [opN_len]|rw [deepN_len]|rw [groupN_len]));omega)).mono ?_;rintro e w8 ⟨A_R,c_R,rfl,hn,hB⟩;have HV_R:=hd_ (hn.less hz);have HM:=hd_ (HM.out.past hB);have p0:=(hB.cell (p:=⟨h,0,none⟩) hlt).trans p0;have p1:=(hB.cell (p:=⟨h,1,none⟩) hlt).trans p1;have p2:=(hB.cell (p:=⟨h,2,none⟩) hlt).trans p2;have HG:=hd_ (grown_below HG.out hB);have hz:=Nat.le_trans hz hB.size;have hlt:=Nat.lt_of_lt_of_le hlt hB.size;clear hn hB;have T5:=hd_ True.intro))
  go_wp2
  go_ret
  exact ⟨A_R,c_R,rfl,HV_R.out,HM.out,HG.out⟩
end Go.Proofs.YtddfdmopaeghnadGreatDoor
namespace Go.Proofs.YtddfdmopaeghnadGreatDoor
open Go.Shelf Go.RowKit
def bldRen:Go.Shelf.Ren:=⟨fun|166=>35|169=>37|240=>60|276=>111|n=>n,fun|0=>0|3=>3|4=>4|9=>9|20=>20|37=>86|70=>85|72=>88|75=>27|80=>44|127=>131|164=>176|5=>5|n=>n,fun|n=>n⟩
theorem bldLays166:Go.Proofs.Lays.n166 Tryz.prog bldRen:={
 mixed:=by kernel_rfl
 f166:=Tryz.func35.trans (congrArg some (by kernel_rfl))
 f240:=Tryz.func60.trans (congrArg some (by kernel_rfl))
 f276:=Tryz.func111.trans (congrArg some (by kernel_rfl))
 t0:=Tryz.underlying0
 a0:=Tryz.isAgg0
 z0:=Tryz.sizeOf0
 v0:=Tryz.zeroValue0
 t3:=Tryz.underlying3
 a3:=Tryz.isAgg3
 z3:=Tryz.sizeOf3
 v3:=Tryz.zeroValue3
 t4:=Tryz.underlying4
 a4:=Tryz.isAgg4
 z4:=Tryz.sizeOf4
 v4:=Tryz.zeroValue4
 t9:=Tryz.underlying9
 a9:=Tryz.isAgg9
 z9:=Tryz.sizeOf9
 v9:=Tryz.zeroValue9
 t20:=Tryz.underlying20
 a20:=Tryz.isAgg20
 z20:=Tryz.sizeOf20
 v20:=Tryz.zeroValue20
 t37:=Tryz.underlying86
 a37:=Tryz.isAgg86
 z37:=Tryz.sizeOf86
 v37:=Tryz.zeroValue86
 t70:=Tryz.underlying85
 a70:=Tryz.isAgg85
 z70:=Tryz.sizeOf85
 v70:=Tryz.zeroValue85
 t72:=Tryz.underlying88
 a72:=Tryz.isAgg88
 z72:=Tryz.sizeOf88
 v72:=Tryz.zeroValue88
 t75:=Tryz.underlying27
 a75:=Tryz.isAgg27
 z75:=Tryz.sizeOf27
 v75:=Tryz.zeroValue27
 t164:=Tryz.underlying176
 a164:=Tryz.isAgg176
 z164:=Tryz.sizeOf176
 v164:=Tryz.zeroValue176
}
theorem bldLays169:Go.Proofs.Lays.n169 Tryz.prog bldRen:={
 mixed:=by kernel_rfl
 f169:=Tryz.func37.trans (congrArg some (by kernel_rfl))
 t0:=Tryz.underlying0
 a0:=Tryz.isAgg0
 z0:=Tryz.sizeOf0
 v0:=Tryz.zeroValue0
 t3:=Tryz.underlying3
 a3:=Tryz.isAgg3
 z3:=Tryz.sizeOf3
 v3:=Tryz.zeroValue3
 t9:=Tryz.underlying9
 a9:=Tryz.isAgg9
 z9:=Tryz.sizeOf9
 v9:=Tryz.zeroValue9
 t37:=Tryz.underlying86
 a37:=Tryz.isAgg86
 z37:=Tryz.sizeOf86
 v37:=Tryz.zeroValue86
 t70:=Tryz.underlying85
 a70:=Tryz.isAgg85
 z70:=Tryz.sizeOf85
 v70:=Tryz.zeroValue85
 t72:=Tryz.underlying88
 a72:=Tryz.isAgg88
 z72:=Tryz.sizeOf88
 v72:=Tryz.zeroValue88
 t127:=Tryz.underlying131
 a127:=Tryz.isAgg131
 z127:=Tryz.sizeOf131
 v127:=Tryz.zeroValue131
}
theorem bldExtra:Builder.Extra Tryz.prog bldRen:={
 sizeBuilder:=by kernel_rfl
 liesBuilder:=by kernel_rfl
 t5:=Tryz.underlying5
 a5:=Tryz.isAgg5
 z5:=Tryz.sizeOf5
 v5:=Tryz.zeroValue5
 infoByte:=by kernel_rfl
 cellsByte:=by kernel_rfl
 sizeByte:=by kernel_rfl
 neB5:=by decide
}
def Bld (B b:Nat) (s:ByteArray) (w:World):Prop:=Lib.IsBuilder 88 5 B b (Lib.strCells s) w/\B<=w.heap.size
theorem strCells_app (s t:ByteArray):Lib.strCells s++Lib.strCells t=Lib.strCells (s++t):=by
 simp [Lib.strCells,ByteArray.data_append]
theorem Bld.new (w:World):Bld w.heap.size w.heap.size .empty (w.alloc (.cells #[.pointer none,.slice none 0 0] 88)) :=
 ⟨Lib.fresh_isBuilder _ _ w,by simp⟩
theorem Bld.past {B b:Nat} {s:ByteArray} {w w':World} (h:Bld B b s w) (hb:Below w.heap.size w w'):Bld B b s w':=by
 refine ⟨?_,Nat.le_trans h.2 hb.size⟩
 have one:∀ {p:Value},Lib.BuilderAt 88 5 B b p (Lib.strCells s) w->Lib.BuilderAt 88 5 B b p (Lib.strCells s) w':=by
  intro p hh
  have hlt:=Lib.BuilderAt.lt hh
  obtain ⟨h1,v,h2,h3,h4⟩:=hh
  exact ⟨h1,v,(hb.block b hlt).trans h2,own_below h3 hb,h4⟩
 rcases h.1 with hh|hh
 ·exact .inl (one hh)
 ·exact .inr (one hh)
theorem Bld.drew {B b:Nat} {s:ByteArray} {w:World} (h:Bld B b s w):Bld B b s w.drew:=h
theorem Bld.blk {B b:Nat} {s:ByteArray} {w:World} (h:Bld B b s w):B<=b/\b<w.heap.size:=by
 rcases h.1 with hh|hh
 ·exact ⟨hh.1,Lib.BuilderAt.lt hh⟩
 ·exact ⟨hh.1,Lib.BuilderAt.lt hh⟩
def BldTo (B b:Nat) (n:Nat) (s:ByteArray) (w:World) (e:Ending) (w':World):Prop:=e=.returned (.tuple #[.int .i64 n,.nilIface])/\Bld B b s w'/\Below B w w'
theorem bld_write (B b:Nat) (s t:ByteArray) (w:World) (h:Bld B b s w) (hlen:s.size+t.size<=140737488355328) :
  Calls Tryz.prog 35 #[.pointer (some ⟨b,0,none⟩),.string t] w (BldTo B b t.size (s++t) w) :=
 (Any.Builder_WriteString bldLays166 bldExtra B b (Lib.strCells s) t w h.1 (by rw [Lib.strCells_length];exact hlen) h.2).mono fun e w' ⟨he,hb,hB⟩ =>
  ⟨he,⟨by rw [← strCells_app];exact .inr hb,Nat.le_trans h.2 hB.size⟩,hB⟩
theorem bld_string (B b:Nat) (s:ByteArray) (w:World) (h:Bld B b s w) :
  Calls Tryz.prog 37 #[.pointer (some ⟨b,0,none⟩)] w fun e w'=>e=.returned (.string s)/\Below B w w' :=
 Any.Builder_String_any bldLays169 bldExtra B b s.data.toList w h.1 h.2
end Go.Proofs.YtddfdmopaeghnadGreatDoor
namespace Go.Proofs.YtddfdmopaeghnadGreatDoor
open Go.Shelf Go.RowKit
def SyAt (B b:Nat) (p:Value) (bs:List Value) (x y:Value) (w:World):Prop :=
 B<=b/\∃ v,w.heap[b]?=some (.cells #[p,v,x,y] 130 (0,0))/\w.ownsRow B 5 1 v bs.length bs/\v.ownBlock≠some b
def IsSy (B b:Nat) (bs:List Value) (x y:Value) (w:World):Prop:=SyAt B b (.pointer none) bs x y w∨SyAt B b (.pointer (some ⟨b,0,none⟩)) bs x y w
theorem sySizeB:(Tryz.prog.info? 88).map (·.size)=some 2:=by kernel_rfl
theorem syLies:liesAt Tryz.prog Tryz.prog.depth 130 (4 / Tryz.prog.cellsOf 130) 0 88 1=true:=by kernel_rfl
theorem sycopy_used (b:Nat) (w:World) (h0:w.cell? ⟨b,0,none⟩=some (.pointer (some ⟨b,0,none⟩))) :
  Calls Tryz.prog 60 #[.pointer (some ⟨b,0,none⟩)] w fun e w'=>e=.returned (.tuple #[])/\w'=w :=
 Any.Builder_copyCheck_used { bldLays166 with } bldExtra.toX72 b w h0
theorem sycopy_fresh (b:Nat) (w:World) (h0:w.cell? ⟨b,0,none⟩=some (.pointer none)) (hsh:w.shape? b=some (130,4)) (hfz:w.frozen? ⟨b,0,none⟩=false) :
  Calls Tryz.prog 60 #[.pointer (some ⟨b,0,none⟩)] w fun e w'=>e=.returned (.tuple #[])/\w'=w.setCell ⟨b,0,none⟩ (.pointer (some ⟨b,0,none⟩)):=by
 obtain ⟨j,hj,hjs⟩:=Option.map_eq_some_iff.1 sySizeB
 go_enter Tryz.func60,Tryz.ntmps60
 go_wp2
 rw [Lib.run_to_unsafe w ⟨b,0,none⟩ Tryz.underlying85 Tryz.underlying176 hj (by rw [hjs];decide) hsh (Nat.zero_lt_succ 3)]
 simp only [Result.andThen]
 rw [Oper.upon_value]
 go_wp2
 rw [run_callFunc_extern Tryz.func111 (by kernel_rfl) (by kernel_rfl) (by kernel_rfl) (e:=Extern.AbiNoEscape.same) (by kernel_rfl)]
 rw [Lib.run_noEscape]
 simp only [Result.andThen]
 rw [Oper.upon_value]
 go_wp2
 rw [Lib.run_from_unsafe w ⟨b,0,none⟩ Tryz.underlying176 Tryz.underlying85 hj hsh syLies]
 simp only [Result.andThen]
 rw [Oper.upon_value]
 go_wp2
 go_end0
 exact ⟨rfl,rfl⟩
theorem SyAt.used {B b:Nat} {bs:List Value} {p x y:Value} {w:World} (h:SyAt B b p bs x y w) (q:Value):SyAt B b q bs x y (w.setCell ⟨b,0,none⟩ q):=by
 obtain ⟨hB,v,hb,hown,hne⟩:=h
 refine ⟨hB,v, ?_, ?_,hne⟩
 ·simp [World.setCell,Array.getElem?_modify,hb]
 ·exact hown.kept (row:=some b) ⟨rfl,rfl,rfl,by simp [World.setCell],fun k _ hk=>Below.heap_setCell _ _ _ _ (fun e=>hk (by simp [e]))⟩ (Or.inr hne)
def BesideS (b:Nat) (w w':World):Prop:=∀ (k:Nat) (o:Obj),w.heap[k]?=some o->k≠b->(∀ c fz,o≠.cells c 5 fz)->w'.heap[k]?=some o
theorem BesideS.refl (b:Nat) (w:World):BesideS b w w:=fun _ _ h _ _=>h
theorem BesideS.trans {b:Nat} {u v w:World} (h:BesideS b u v) (g:BesideS b v w):BesideS b u w:=fun _ _ hk hne ho=>g _ _ (h _ _ hk hne ho) hne ho
theorem BesideS.set {b:Nat} (w:World) (j:Nat) (v:Value):BesideS b w (w.setCell ⟨b,j,none⟩ v):=fun _ _ hk hne _=>(Below.heap_setCell _ _ _ _ hne).trans hk
theorem BesideS.grown {b:Nat} {w w':World} {B n:Nat} {v:Value} {xs:List Value} (h:w.ownsRow B 5 1 v n xs) (hg:w.grownBy w' v.ownBlock):BesideS b w w':=by
 intro k o hk _ ho
 refine (hg.block k (Array.getElem?_eq_some_iff.1 hk).1 (fun e=>?_)).trans hk
 rcases h.2 with ⟨rfl,_⟩|⟨g,cap,cur,rfl,_,hgb,_⟩
 ·cases e
 ·have:k=g:=Option.some.inj e
  subst this
  rw [hk] at hgb
  exact ho _ _ (Option.some.inj hgb)
theorem sy_copyCheck (B b:Nat) (bs:List Value) (x y:Value) (w:World) (h:IsSy B b bs x y w) :
  Calls Tryz.prog 60 #[.pointer (some ⟨b,0,none⟩)] w fun e w'=>e=.returned (.tuple #[])/\(SyAt B b (.pointer (some ⟨b,0,none⟩)) bs x y w'/\Below B w w'/\BesideS b w w'):=by
 rcases h with h|h
 ·have h':=h
  obtain ⟨hB,v,hb,hown,hne⟩:=h'
  refine (sycopy_fresh b w (by simp [World.cell?,hb]) (by simp [World.shape?,hb]) (Lib.frozen_of_heap hb 0)).mono ?_
  rintro e w' ⟨rfl,rfl⟩
  exact ⟨rfl,h.used _,(Below.refl B w).setCell (p:=⟨b,0,none⟩) hB _,BesideS.set _ _ _⟩
 ·have h':=h
  obtain ⟨hB,v,hb,hown,hne⟩:=h'
  refine (sycopy_used b w (by simp [World.cell?,hb])).mono ?_
  rintro e w' ⟨rfl,rfl⟩
  exact ⟨rfl,h,Below.refl B _,BesideS.refl _ _⟩
theorem sybyte_info:(Tryz.prog.info? 5).map (fun i=>(i.zero,i.size,i.bytes))=some (some (.int .u8 0),1,1):=by kernel_rfl
theorem rq18 {P:Prop} (h:P:=by
 have hne':(Value.slice ao n' cap).ownBlock≠some b:=Lib.ownBlock_ne hown'' hb2 (by decide)
 refine ⟨hB,_, ?_, ?_,hne'⟩
 ·simp [World.setCell,Array.getElem?_modify,hb2]
 ·exact hown''.kept (row:=some b) ⟨rfl,rfl,rfl,by simp [World.setCell],fun k _ hk=>Below.heap_setCell _ _ _ _ (fun e=>hk (by simp [e]))⟩ (Or.inr hne')):P:=h
theorem sy_write_ (B b:Nat) (bs:List Value) (x y:Value) (s:ByteArray) (w:World) (h:IsSy B b bs x y w) (hlen:bs.length+s.size<=140737488355328) (hBw:B<=w.heap.size) :
  Calls Tryz.prog 35 #[.pointer (some ⟨b,0,none⟩),.string s] w fun e w'=>e=.returned (.tuple #[.int .i64 s.size,.nilIface])/\(SyAt B b (.pointer (some ⟨b,0,none⟩)) (bs++Lib.strCells s) x y w'/\Below B w w'/\BesideS b w w'):=by
 obtain ⟨i0,hi,hz0,hz1,hz2⟩:=info_parts sybyte_info
 go_enter Tryz.func35,Tryz.ntmps35
 go_wp2_with (go_at_call 60;refine (sy_copyCheck B b bs x y _ h).mono ?_)
 rintro e w1 ⟨rfl,h1,hb1,hbz⟩
 obtain ⟨hB,v,hbk,hown,hne⟩:=h1
 have c0:w1.cell? ⟨b,0,none⟩=some (.pointer (some ⟨b,0,none⟩)):=by rw [Lib.cell_of_heap hbk];rfl
 have c1:w1.cell? ⟨b,1,none⟩=some v:=by rw [Lib.cell_of_heap hbk];rfl
 go_wp2_with (at_builtin;refine Lib.wpList_append_own_string _ rfl _ _ 86 9 rfl B 5 i0 Tryz.underlying86 Tryz.underlying9 hi hz0 hz1 hz2 _ _ _ rfl hown s rfl ?c3 ?c4 ?c5 ?_)
 case c3=>unfold maxLen;omega
 case c4=>omega
 case c5=>have:=hb1.size;omega
 intro v' w2 hown' hgrow _
 have hlt:b<w1.heap.size:=by
  rcases Nat.lt_or_ge b w1.heap.size with h'|h'
  ·exact h'
  ·simp [Array.getElem?_eq_none h'] at hbk
 have hb2:w2.heap[b]?=some (.cells #[.pointer (some ⟨b,0,none⟩),v,x,y] 130 (0,0)):=by
  rw [hgrow.block b hlt (fun e=>hne e.symm)]
  exact hbk
 have d0:w2.cell? ⟨b,0,none⟩=some (.pointer (some ⟨b,0,none⟩)):=by rw [Lib.cell_of_heap hb2];rfl
 have d1:w2.cell? ⟨b,1,none⟩=some v:=by rw [Lib.cell_of_heap hb2];rfl
 have f1:w2.frozen? ⟨b,1,none⟩=false:=Lib.frozen_of_heap hb2 1
 obtain ⟨ao,n',cap,rfl⟩:∃ ao n' cap,v'=.slice ao n' cap:=by
  rcases hown'.2 with ⟨hv,_⟩|⟨g,cap,cur,hv,_⟩
  ·exact ⟨_,_,_,hv⟩
  ·exact ⟨_,_,_,hv⟩
 go_wp2
 go_ret2
 refine ⟨rfl, ?_, ?_,hbz.trans ((BesideS.grown hown hgrow).trans (BesideS.set _ _ _))⟩
 ·have hown'':w2.ownsRow B 5 1 (.slice ao n' cap) (bs++Lib.strCells s).length (bs++Lib.strCells s):=by simpa [Lib.strCells_length] using hown'
  exact rq18
 ·exact (hb1.grown hgrow (by have:=hb1.size;omega) (fun k hk=>(hown.lt k hk).1)).setCell (p:=⟨b,1,none⟩) hB _
theorem BesideS.alloc {b:Nat} (w:World) (o:Obj):BesideS b w (w.alloc o):=fun _ _ hk _ _=>(Below.heap_alloc _ _ _ (Array.getElem?_eq_some_iff.1 hk).1).trans hk
theorem rq13 {P:Prop} (h:P:=by
 go_wp2_with (go_at_call 60;refine (sy_copyCheck B b bs x y _ h).mono ?_)
 rintro e w1 ⟨rfl,h1,hb1,hbz⟩
 obtain ⟨hB,v,hbk,hown,hne⟩:=h1
 have c0:w1.cell? ⟨b,0,none⟩=some (.pointer (some ⟨b,0,none⟩)):=by rw [Lib.cell_of_heap hbk];rfl
 have c1:w1.cell? ⟨b,1,none⟩=some v:=by rw [Lib.cell_of_heap hbk];rfl
 go_wp2_with (at_builtin;refine wpList_append_own _ rfl _ _ 86 rfl B 5 i0 (.int .u8 0) 1 1 Tryz.underlying86 hi hz0 hz1 hz2 rfl (by decide) _ _ _ rfl (hown.alloc _) ⟨w1.heap.size,0,none⟩ 1 1 [.int .u8 c] rfl rfl ?c1 ?c2 ?c3 ?c4 ?c5 ?_)
 case c1 =>
  intro j u hj
  match j,hj with
  | 0,hj=>simp at hj;subst hj;simp [Addr.add]
 case c2=>intro u hu;simp at hu;subst hu;rfl
 case c3=>unfold maxLen;omega
 case c4=>omega
 case c5=>have:=hb1.size;simp;omega
 intro v' w2 hown' hgrow _
 have hlt:b<w1.heap.size:=by
  rcases Nat.lt_or_ge b w1.heap.size with h'|h'
  ·exact h'
  ·simp [Array.getElem?_eq_none h'] at hbk
 have hb2:w2.heap[b]?=some (.cells #[.pointer (some ⟨b,0,none⟩),v,x,y] 130 (0,0)):=by
  rw [hgrow.block b (by simp;omega) (fun e=>hne e.symm),Below.heap_alloc _ _ b hlt]
  exact hbk
 have d0:w2.cell? ⟨b,0,none⟩=some (.pointer (some ⟨b,0,none⟩)):=by rw [Lib.cell_of_heap hb2];rfl
 have d1:w2.cell? ⟨b,1,none⟩=some v:=by rw [Lib.cell_of_heap hb2];rfl
 have f1:w2.frozen? ⟨b,1,none⟩=false:=Lib.frozen_of_heap hb2 1
 obtain ⟨ao,n',cap,rfl⟩:∃ ao n' cap,v'=.slice ao n' cap:=by
  rcases hown'.2 with ⟨hv,_⟩|⟨g,cap,cur,hv,_⟩
  ·exact ⟨_,_,_,hv⟩
  ·exact ⟨_,_,_,hv⟩
 go_wp2
 go_ret
 refine ⟨rfl, ?_, ?_,hbz.trans ((BesideS.alloc _ _).trans ((BesideS.grown (hown.alloc _) hgrow).trans (BesideS.set _ _ _)))⟩
 ·have hown'':w2.ownsRow B 5 1 (.slice ao n' cap) (bs++[Value.int .u8 c]).length (bs++[Value.int .u8 c]):=by simpa using hown'
  exact rq18
 ·exact ((hb1.alloc (by have:=hb1.size;omega) _).grown hgrow (by have:=hb1.size;simp;omega) (fun k hk=>(hown.lt k hk).1)).setCell (p:=⟨b,1,none⟩) hB _):P:=h
theorem sy_byte_ (B b:Nat) (bs:List Value) (x y:Value) (c:Int) (w:World) (h:IsSy B b bs x y w) (hlen:bs.length+1<=140737488355328) (hBw:B<=w.heap.size) :
  Calls Tryz.prog 114 #[.pointer (some ⟨b,0,none⟩),.int .u8 c] w fun e w'=>(e=.returned .nilIface/\(SyAt B b (.pointer (some ⟨b,0,none⟩)) (bs++[Value.int .u8 c]) x y w'/\Below B w w'/\BesideS b w w')):=by
 obtain ⟨i0,hi,hz0,hz1,hz2⟩:=info_parts sybyte_info
 go_enter Tryz.func114,Tryz.ntmps114
 exact rq13
theorem sy_byteD_ (B b:Nat) (bs:List Value) (x y:Value) (c:Int) (u:FrameMode) (w:World) (h:IsSy B b bs x y w) (hlen:bs.length+1<=140737488355328) (hBw:B<=w.heap.size) :
  CallsD Tryz.prog 114 #[.pointer (some ⟨b,0,none⟩),.int .u8 c] u w fun e u' w'=>u'=u/\(e=.returned .nilIface/\(SyAt B b (.pointer (some ⟨b,0,none⟩)) (bs++[Value.int .u8 c]) x y w'/\Below B w w'/\BesideS b w w')):=by
 obtain ⟨i0,hi,hz0,hz1,hz2⟩:=info_parts sybyte_info
 go_enter_d Tryz.func114,Tryz.ntmps114
 exact rq13
def SyW (B b:Nat) (dv:Value) (i:Nat) (s:ByteArray) (w:World):Prop:=IsSy B b (Lib.strCells s) dv (.int .i64 i) w/\B<=w.heap.size
theorem SyAt.past {B b:Nat} {p x y:Value} {bs:List Value} {w w':World} (h:SyAt B b p bs x y w) (hb:Below w.heap.size w w'):SyAt B b p bs x y w':=by
 obtain ⟨h1,v,h2,h3,h4⟩:=h
 exact ⟨h1,v,(hb.block b (Array.getElem?_eq_some_iff.1 h2).1).trans h2,own_below h3 hb,h4⟩
theorem SyW.past {B b i:Nat} {dv:Value} {s:ByteArray} {w w':World} (h:SyW B b dv i s w) (hb:Below w.heap.size w w'):SyW B b dv i s w' :=
 ⟨h.1.imp (·.past hb) (·.past hb),Nat.le_trans h.2 hb.size⟩
theorem SyW.blk {B b i:Nat} {dv:Value} {s:ByteArray} {w:World} (h:SyW B b dv i s w):B<=b/\b<w.heap.size/\∃ p v,w.heap[b]?=some (.cells #[p,v,dv,.int .i64 i] 130 (0,0)):=by
 rcases h.1 with ⟨h1,v,h2,_⟩|⟨h1,v,h2,_⟩
 ·exact ⟨h1,(Array.getElem?_eq_some_iff.1 h2).1,_,_,h2⟩
 ·exact ⟨h1,(Array.getElem?_eq_some_iff.1 h2).1,_,_,h2⟩
theorem SyW.c2 {B b i:Nat} {dv:Value} {s:ByteArray} {w:World} (h:SyW B b dv i s w):w.cell? ⟨b,2,none⟩=some dv:=by
 obtain ⟨_,_,p,v,h⟩:=h.blk
 rw [Lib.cell_of_heap h];rfl
theorem SyW.c3 {B b i:Nat} {dv:Value} {s:ByteArray} {w:World} (h:SyW B b dv i s w):w.cell? ⟨b,3,none⟩=some (.int .i64 i):=by
 obtain ⟨_,_,p,v,h⟩:=h.blk
 rw [Lib.cell_of_heap h];rfl
theorem SyW.free {B b i:Nat} {dv:Value} {s:ByteArray} {w:World} (h:SyW B b dv i s w) (j:Nat):w.frozen? ⟨b,j,none⟩=false:=by
 obtain ⟨_,_,p,v,h⟩:=h.blk
 exact Lib.frozen_of_heap h j
theorem SyW.set {B b i:Nat} {dv:Value} {s:ByteArray} {w:World} (h:SyW B b dv i s w) (j:Nat):SyW B b dv j s (w.setCell ⟨b,3,none⟩ (.int .i64 j)):=by
 refine ⟨?_,by simpa [World.setCell] using h.2⟩
 have one:∀ {p:Value},SyAt B b p (Lib.strCells s) dv (.int .i64 i) w->SyAt B b p (Lib.strCells s) dv (.int .i64 j) (w.setCell ⟨b,3,none⟩ (.int .i64 j)):=by
  intro p hh
  obtain ⟨h1,v,h2,h3,h4⟩:=hh
  refine ⟨h1,v,by simp [World.setCell,Array.getElem?_modify,h2], ?_,h4⟩
  exact h3.kept (row:=some b) ⟨rfl,rfl,rfl,by simp [World.setCell],fun k _ hk=>Below.heap_setCell _ _ _ _ (fun e=>hk (by simp [e]))⟩ (Or.inr h4)
 exact h.1.imp one one
theorem SyW.new (w:World) (dv:Value):SyW w.heap.size w.heap.size dv 0 .empty (w.alloc (.cells #[.pointer none,.slice none 0 0,dv,.int .i64 0] 130)) :=
 ⟨.inl ⟨Nat.le_refl _,_,heap_new rfl,World.ownsRow_nil _ _ _ _,by simp [Value.ownBlock]⟩,by simp⟩
def SyWTo (B b n:Nat) (dv:Value) (i:Nat) (s:ByteArray) (w:World) (e:Ending) (w':World):Prop:=e=.returned (.tuple #[.int .i64 n,.nilIface])/\SyW B b dv i s w'/\Below B w w'/\BesideS b w w'/\w.heap.size<=w'.heap.size
theorem sy_write (B b:Nat) (dv:Value) (i:Nat) (s t:ByteArray) (w:World) (h:SyW B b dv i s w) (hlen:s.size+t.size<=140737488355328) :
  Calls Tryz.prog 35 #[.pointer (some ⟨b,0,none⟩),.string t] w (SyWTo B b t.size dv i (s++t) w) :=
 (sy_write_ B b (Lib.strCells s) dv (.int .i64 i) t w h.1 (by rw [Lib.strCells_length];exact hlen) h.2).mono fun e w' ⟨he,hb,hB,hO⟩ =>
  ⟨he,⟨by rw [← strCells_app];exact .inr hb,Nat.le_trans h.2 hB.size⟩,hB,hO,hB.size⟩
theorem sy_string (B b:Nat) (dv:Value) (i:Nat) (s:ByteArray) (w:World) (h:SyW B b dv i s w) (h0:s.data.toList≠[]) :
  Calls Tryz.prog 37 #[.pointer (some ⟨b,0,none⟩)] w fun e w'=>e=.returned (.string s)/\Below B w w':=by
 obtain ⟨p,hB,v,hbk,hown,hne⟩:∃ p,SyAt B b p (Lib.byteCells s.data.toList) dv (.int .i64 i) w:=by
  rcases h.1 with h|h
  ·exact ⟨_,h⟩
  ·exact ⟨_,h⟩
 have hes:s=⟨s.data.toList.toArray⟩:=rfl
 generalize s.data.toList=l at *
 subst hes
 have hl0:l.length≠0:=by simpa using h0
 rw [Lib.byteCells_length] at hown
 obtain ⟨g,cap,cur,rfl,hbg,hg,hnc,hcm,hcs,htake⟩:∃ g cap cur,v=.slice (some ⟨g,0,none⟩) l.length cap/\B<=g/\w.heap[g]?=some (.cells cur 5 (0,0))/\l.length<=cap/\cap<=maxLen/\cur.size=cap*1/\cur.toList.take (l.length*1)=Lib.byteCells l:=by
  rcases hown.2 with ⟨_,hz⟩|⟨g,cap,cur,hv,r⟩
  ·exact absurd hz hl0
  ·exact ⟨g,cap,cur,hv,r⟩
 have c1:w.drew.cell? ⟨b,1,none⟩=some (.slice (some ⟨g,0,none⟩) l.length cap):=by
  have:w.drew.heap[b]?=some (.cells #[p,.slice (some ⟨g,0,none⟩) l.length cap,dv,.int .i64 i] 130 (0,0)):=hbk
  rw [Lib.cell_of_heap this];rfl
 have hSD:(Builtin.unsafeSliceData_ #[86] 131 #[.slice (some ⟨g,0,none⟩) l.length cap]).run Tryz.prog w.drew=.ok (.pointer (some ⟨g,0,none⟩)) w.drew :=
  Lib.run_unsafeSliceData_row _ _ _ _ _ _ (by omega)
 have hUS:(Builtin.unsafeString_ #[131,3] 9 #[.pointer (some ⟨g,0,none⟩),.int .i64 l.length]).run Tryz.prog w.drew=.ok (.string ⟨l.toArray⟩) (w.drew.freeze ⟨g,0,none⟩ l.length):=by
  refine Lib.run_unsafeString_row w.drew 131 3 9 5 Tryz.underlying131 (by kernel_rfl) g cur.size (by have hg':w.drew.heap[g]?=some (.cells cur 5 (0,0)):=hg;simp [World.shape?,hg']) l h0 (by omega) (by unfold maxLen at hcm;omega) ?_
  intro j x hx
  have:=hown.cells (g:=g) rfl j (.int .u8 x.toNat) (by simp [Lib.byteCells,hx])
  exact this
 have mixed:=bldLays169.mixed
 go_enter Tryz.func37,Tryz.ntmps37
 go_wp2
 go_region_o
 all_goals (go_wp2;go_ret;exact ⟨rfl,Lib.below_freeze (Below.drew (Below.refl B w)) (p:=⟨g,0,none⟩) hbg _⟩)
def SyBTo (B b:Nat) (dv:Value) (i:Nat) (s:ByteArray) (w w':World):Prop:=SyW B b dv i s w'/\Below B w w'/\BesideS b w w'/\w.heap.size<=w'.heap.size
theorem strCells_byte (s:ByteArray) (c:UInt8):Lib.strCells (s++⟨#[c]⟩)=Lib.strCells s++[.int .u8 (c.toNat:Int)]:=by rw [← strCells_app];rfl
theorem sy_byte (B b:Nat) (dv:Value) (i:Nat) (s:ByteArray) (c:UInt8) (w:World) (h:SyW B b dv i s w) (hlen:s.size+1<=140737488355328) :
  Calls Tryz.prog 114 #[.pointer (some ⟨b,0,none⟩),.int .u8 (c.toNat:Int)] w fun e w'=>e=.returned .nilIface/\SyBTo B b dv i (s++⟨#[c]⟩) w w' :=
 (sy_byte_ B b (Lib.strCells s) dv (.int .i64 i) c.toNat w h.1 (by rw [Lib.strCells_length];exact hlen) h.2).mono fun e w' ⟨he,hb,hB,hO⟩ =>
  ⟨he,⟨by rw [strCells_byte];exact .inr hb,Nat.le_trans h.2 hB.size⟩,hB,hO,hB.size⟩
theorem sy_byteD (B b:Nat) (dv:Value) (i:Nat) (s:ByteArray) (c:UInt8) (u:FrameMode) (w:World) (h:SyW B b dv i s w) (hlen:s.size+1<=140737488355328) :
  CallsD Tryz.prog 114 #[.pointer (some ⟨b,0,none⟩),.int .u8 (c.toNat:Int)] u w fun e u' w'=>u'=u/\(e=.returned .nilIface/\SyBTo B b dv i (s++⟨#[c]⟩) w w') :=
 (sy_byteD_ B b (Lib.strCells s) dv (.int .i64 i) c.toNat u w h.1 (by rw [Lib.strCells_length];exact hlen) h.2).mono fun e u' w' ⟨hu,he,hb,hB,hO⟩ =>
  ⟨hu,he,⟨by rw [strCells_byte];exact .inr hb,Nat.le_trans h.2 hB.size⟩,hB,hO,hB.size⟩
end Go.Proofs.YtddfdmopaeghnadGreatDoor
namespace Go.Proofs.YtddfdmopaeghnadGreatDoor
theorem kidX_len (po ko:Int) (b:Bool) (x:ByteArray):(kidX po ko b x).size<=x.size+2:=by
 unfold kidX
 split
 ·simp only [ByteArray.size_append]
  show 1+x.size+1<=_
  omega
 ·omega
theorem kidsX_len {l:List Nd} {g:Nat->ByteArray}:∀ (m a z:Nat),KidsP l a m z->(∀ b,a<=b->b<l.length->(g b).size+6<=24*(tEnd l b-b))->a<=z/\(kidsX g (tEnd l) a m).size+4*m<=24*(z-a):=by
 intro m
 induction m with
 | zero=>intro a z h _;rw [KidsP] at h;subst h;simp [kidsX]
 | succ m ih =>
  intro a z h hg
  obtain ⟨h1,h2,h3⟩:=h
  have h4:=hg a (Nat.le_refl _) h1
  obtain ⟨h5,h6⟩:=ih _ _ h3 (fun b hb hb2=>hg b (by omega) hb2)
  refine ⟨by omega, ?_⟩
  rw [kidsX]
  split
  ·rename_i e;subst e;omega
  ·simp only [ByteArray.size_append]
   show (g a).size+2+(kidsX g (tEnd l) (tEnd l a) m).size+4*(m+1)<=_
   omega
theorem rq19 {P:Prop} (h:P:=by
 ·rw [treeOne,if_pos (by rcases hc with h|h;exact .inl h;exact .inr (.inl h))] at hone;cases hone
 ·omega):P:=h
theorem textX_len {l:List Nd} (hT:Tr l):∀ f i:Nat,l.length<=i+f->(hi:i<l.length)->l[i].op≠9->(textX l f i).size+6<=24*(tEnd l i-i):=by
 intro f
 induction f with
 | zero=>intro i h1 h2;omega
 | succ f ih =>
  intro i h1 h2 h9
  have hk:=hT.kidsP h2
  have hb:=(tEnd_bd h2).1
  have hm:(manyL l).getD i 0=(manyF l[i].op l[i].n).toNat:=manyL_at h2 rfl
  have hone:=hT.one _ (List.getElem_mem h2)
  have hop:1<=l[i].op/\l[i].op<=9:=by
   by_cases hc:l[i].op<1∨9<l[i].op
   ·rw [treeOne,if_pos (by rcases hc with h|h;exact .inl h;exact .inr (.inl h))] at hone;cases hone
   ·omega
  rw [hm] at hk
  have ihk:∀ b,i+1<=b->b<l.length->(textX l f b).size+6<=24*(tEnd l b-b):=fun b hb hl=>ih b (by omega) hl (by have:=hT.low hl (by omega);omega)
  rw [textX,getD_at h2]
  generalize l[i].op=op at *
  generalize l[i].n=n at *
  generalize l[i].text=t at *
  have hnm:namedF op=true->t.size<=8:=fun h=>(name_facts (tone_word hone h h9)).2.1
  have hcs:op=1∨op=2∨op=3∨op=4∨op=5∨op=6∨op=7∨op=8:=by omega
  rcases hcs with rfl|rfl|rfl|rfl|rfl|rfl|rfl|rfl
  ·obtain ⟨n0,n1⟩:=tone_num hone
   have:=itoa_len6 n0 n1
   simp only [if_true]
   have hz:(⟨(Lib.itoa n).toArray⟩:ByteArray).size=(Lib.itoa n).length:=by simp [ByteArray.size]
   omega
  ·have:=hnm rfl
   simp only [show ¬ (2:Int)=1 by decide,if_false,if_true];omega
  ·have:=hnm rfl
   rw [show manyF 3 n=n from rfl] at hk
   obtain ⟨g1,g2⟩:=kidsX_len _ _ _ hk ihk
   simp only [show ¬ (3:Int)=1 by decide,show ¬ (3:Int)=2 by decide,if_false,if_true,ByteArray.size_append]
   show t.size+1+(kidsX (textX l f) (tEnd l) (i+1) n.toNat).size+1+6<=_
   omega
  ·rw [show manyF 4 n=n from rfl] at hk
   obtain ⟨g1,g2⟩:=kidsX_len _ _ _ hk ihk
   simp only [show ¬ (4:Int)=1 by decide,show ¬ (4:Int)=2 by decide,show ¬ (4:Int)=3 by decide,if_false,if_true,ByteArray.size_append]
   show 1+(kidsX (textX l f) (tEnd l) (i+1) n.toNat).size+1+6<=_
   omega
  ·obtain ⟨a1,a2,b1,b2,b3⟩:i+1<l.length/\i+1<tEnd l (i+1)/\tEnd l (i+1)<l.length/\tEnd l (i+1)<tEnd l (tEnd l (i+1))/\tEnd l (tEnd l (i+1))=tEnd l i:=⟨hk.1,hk.2.1,hk.2.2.1,hk.2.2.2.1,hk.2.2.2.2⟩
   have q1:=ihk _ (Nat.le_refl _) a1
   have q2:=ihk _ (by omega) b1
   have q3:=kidX_len 5 (opAt l (i+1)) false (textX l f (i+1))
   have q4:=kidX_len 5 (opAt l (tEnd l (i+1))) true (textX l f (tEnd l (i+1)))
   simp only [show ¬ (5:Int)=1 by decide,show ¬ (5:Int)=2 by decide,show ¬ (5:Int)=3 by decide,show ¬ (5:Int)=4 by decide,if_false,if_true,ByteArray.size_append]
   show (kidX 5 (opAt l (i+1)) false (textX l f (i+1))).size+3+(kidX 5 (opAt l (tEnd l (i+1))) true (textX l f (tEnd l (i+1)))).size+6<=_
   omega
  ·obtain ⟨a1,a2,b1,b2,b3⟩:i+1<l.length/\i+1<tEnd l (i+1)/\tEnd l (i+1)<l.length/\tEnd l (i+1)<tEnd l (tEnd l (i+1))/\tEnd l (tEnd l (i+1))=tEnd l i:=⟨hk.1,hk.2.1,hk.2.2.1,hk.2.2.2.1,hk.2.2.2.2⟩
   have q1:=ihk _ (Nat.le_refl _) a1
   have q2:=ihk _ (by omega) b1
   have q3:=kidX_len 6 (opAt l (i+1)) false (textX l f (i+1))
   have q4:=kidX_len 6 (opAt l (tEnd l (i+1))) true (textX l f (tEnd l (i+1)))
   simp only [show ¬ (6:Int)=1 by decide,show ¬ (6:Int)=2 by decide,show ¬ (6:Int)=3 by decide,show ¬ (6:Int)=4 by decide,show ¬ (6:Int)=5 by decide,if_false,if_true,ByteArray.size_append]
   show (kidX 6 (opAt l (i+1)) false (textX l f (i+1))).size+3+(kidX 6 (opAt l (tEnd l (i+1))) true (textX l f (tEnd l (i+1)))).size+6<=_
   omega
  ·have:=hnm rfl
   obtain ⟨a1,a2,b3⟩:i+1<l.length/\i+1<tEnd l (i+1)/\tEnd l (i+1)=tEnd l i:=⟨hk.1,hk.2.1,hk.2.2⟩
   have q1:=ihk _ (Nat.le_refl _) a1
   simp only [show ¬ (7:Int)=1 by decide,show ¬ (7:Int)=2 by decide,show ¬ (7:Int)=3 by decide,show ¬ (7:Int)=4 by decide,show ¬ (7:Int)=5 by decide,show ¬ (7:Int)=6 by decide,if_false,if_true,ByteArray.size_append]
   show 4+t.size+3+(textX l f (i+1)).size+1+6<=_
   omega
  ·obtain ⟨a1,a2,b3⟩:i+1<l.length/\i+1<tEnd l (i+1)/\tEnd l (i+1)=tEnd l i:=⟨hk.1,hk.2.1,hk.2.2⟩
   have q1:=ihk _ (Nat.le_refl _) a1
   simp only [show ¬ (8:Int)=1 by decide,show ¬ (8:Int)=2 by decide,show ¬ (8:Int)=3 by decide,show ¬ (8:Int)=4 by decide,show ¬ (8:Int)=5 by decide,show ¬ (8:Int)=6 by decide,show ¬ (8:Int)=7 by decide,if_false,ByteArray.size_append]
   show (textX l f (i+1)).size+1+6<=_
   omega
def restX (g:Nat->ByteArray) (e:Nat->Nat) (j a r:Nat):ByteArray:=if r=0 then .empty else (if j=0 then .empty else ⟨#[44,32]⟩)++kidsX g e a r
theorem rest_start (g:Nat->ByteArray) (e:Nat->Nat) (a m:Nat):kidsX g e a m=restX g e 0 a m:=by
 unfold restX
 cases m with
 | zero=>rfl
 | succ m=>simp
theorem kidsX_succ (g:Nat->ByteArray) (e:Nat->Nat) (j a r:Nat):kidsX g e a (r+1)=g a++restX g e (j+1) (e a) r:=by
 rw [kidsX,restX]
 split
 ·simp
 ·simp [ByteArray.append_assoc]
theorem rest_zero (g:Nat->ByteArray) (e:Nat->Nat) (a r:Nat):restX g e 0 a (r+1)=g a++restX g e (0+1) (e a) r:=by
 rw [← rest_start,kidsX_succ]
theorem rest_succ (g:Nat->ByteArray) (e:Nat->Nat) (j a r:Nat):restX g e (j+1) a (r+1)=⟨#[44,32]⟩++(g a++restX g e (j+1+1) (e a) r):=by
 rw [restX,if_neg (by omega),if_neg (by omega),kidsX_succ g e (j+1)]
theorem rest_end (g:Nat->ByteArray) (e:Nat->Nat) (j a:Nat):restX g e j a 0=.empty:=rfl
end Go.Proofs.YtddfdmopaeghnadGreatDoor
namespace Go.Proofs.YtddfdmopaeghnadGreatDoor
open Go.RowKit
structure SySt (B g:Nat) (A:Option Addr) (c:Nat) (l:List Nd) (i:Nat) (s:ByteArray) (w:World):Prop where
 wr:SyW B g (.slice A l.length c) i s w
 nds:Nds w B A l
 pow:PowT w
 glob:4<B
section
variable {B g c i j:Nat} {A:Option Addr} {l:List Nd} {s t:ByteArray} {w w':World}
theorem SySt.lt (h:SySt B g A c l i s w):B<=g/\g<w.heap.size:=⟨h.wr.blk.1,h.wr.blk.2.1⟩
theorem SySt.step (h:SySt B g A c l i s w) (hw:SyW B g (.slice A l.length c) j t w') (hB:Below B w w'):SySt B g A c l j t w':=⟨hw,h.nds.mkunder hB (Nat.le_refl _),h.pow.keep (hB.block _ h.glob),h.glob⟩
theorem SySt.past (h:SySt B g A c l i s w) (hb:Below w.heap.size w w'):SySt B g A c l i s w':=h.step (h.wr.past hb) (hb.mono h.wr.2)
theorem SySt.cells (h:SySt B g A c l i s w):w.cell? ⟨g,2,none⟩=some (.slice A l.length c)/\w.cell? ⟨g,3,none⟩=some (.int .i64 (i:Nat))/\w.frozen? ⟨g,3,none⟩=false:=⟨h.wr.c2,h.wr.c3,h.wr.free 3⟩
end
def SyTo (B g:Nat) (A:Option Addr) (c:Nat) (l:List Nd) (z:Nat) (t:ByteArray) (w:World) (e:Ending) (w':World):Prop :=
 e=.returned (.tuple #[])/\SySt B g A c l z t w'/\Below B w w'/\BesideS g w w'/\w.heap.size<=w'.heap.size
def SyWr (B g:Nat) (A:Option Addr) (c:Nat) (l:List Nd) (i:Nat) (t:ByteArray) (w w':World):Prop:=SySt B g A c l i t w'/\Below B w w'/\BesideS g w w'/\w.heap.size<=w'.heap.size
theorem sst_write {B g c i:Nat} {A:Option Addr} {l:List Nd} {s:ByteArray} (t:ByteArray) {w:World} (h:SySt B g A c l i s w) (hl:s.size+t.size<=1000000) :
  Calls Tryz.prog 35 #[.pointer (some ⟨g,0,none⟩),.string t] w fun e w'=>e=.returned (.tuple #[.int .i64 t.size,.nilIface])/\SyWr B g A c l i (s++t) w w' :=
 (sy_write B g _ i s t w h.wr (by omega)).mono fun _ _ ⟨he,hw,hB,hO,hz⟩=>⟨he,h.step hw hB,hB,hO,hz⟩
theorem sst_byte {B g c i:Nat} {A:Option Addr} {l:List Nd} {s:ByteArray} (ch:UInt8) {v:Int} (hv:v=(ch.toNat:Int)) {w:World} (h:SySt B g A c l i s w) (hl:s.size+1<=1000000) :
  Calls Tryz.prog 114 #[.pointer (some ⟨g,0,none⟩),.int .u8 v] w fun e w'=>e=.returned .nilIface/\SyWr B g A c l i (s++⟨#[ch]⟩) w w':=by
 subst hv
 exact (sy_byte B g _ i s ch w h.wr (by omega)).mono fun _ _ ⟨he,hw,hB,hO,hz⟩=>⟨he,h.step hw hB,hB,hO,hz⟩
theorem sst_byteD {B g c i:Nat} {A:Option Addr} {l:List Nd} {s:ByteArray} (ch:UInt8) {v:Int} (hv:v=(ch.toNat:Int)) (u:FrameMode) {w:World} (h:SySt B g A c l i s w) (hl:s.size+1<=1000000) :
  CallsD Tryz.prog 114 #[.pointer (some ⟨g,0,none⟩),.int .u8 v] u w fun e u' w'=>u'=u/\(e=.returned .nilIface/\SyWr B g A c l i (s++⟨#[ch]⟩) w w'):=by
 subst hv
 exact (sy_byteD B g _ i s ch u w h.wr (by omega)).mono fun _ _ _ ⟨hu,he,hw,hB,hO,hz⟩=>⟨hu,he,h.step hw hB,hB,hO,hz⟩
def SySaid (B g:Nat) (A:Option Addr) (c:Nat) (l:List Nd) (f:Nat):Prop :=
 ∀ (i:Nat) (s:ByteArray) (w:World),SySt B g A c l i s w->i<l.length->l.length<=i+f->opAt l i≠9->s.size<=100*i+50 ->
  Calls Tryz.prog 61 #[.pointer (some ⟨g,0,none⟩)] w (SyTo B g A c l (tEnd l i) (s++textX l f i) w)
theorem text_small {l:List Nd} (hT:Tr l) {f i:Nat} (hf:l.length<=i+f) (hi:i<l.length) (h9:opAt l i≠9):i+1<=tEnd l i/\(textX l f i).size<=24*(tEnd l i-i):=by
 have h1:opAt l i=l[i].op:=by rw [opAt,getD_at hi]
 have h2:=textX_len hT f i hf hi (by omega)
 have h3:=tEnd_bd hi
 omega
theorem BesideS.tree {g h:Nat} {w w':World} {cs:Array Value} (hO:BesideS g w w') (hh:w.heap[h]?=some (.cells cs 61 (0,0))) (hne:h≠g):w'.heap[h]?=some (.cells cs 61 (0,0)) :=
 hO h _ hh hne (fun c fz e=>by cases e)
theorem BesideS.below {g:Nat} {w w':World} (h:Below w.heap.size w w'):BesideS g w w':=fun k _ hk _ _=>(h.block k (Array.getElem?_eq_some_iff.1 hk).1).trans hk
theorem skid_any {B g c f:Nat} {A:Option Addr} {l:List Nd} (hT:Tr l) (ih:SySaid B g A c l f) (i:Nat) (s:ByteArray) (w:World) (po pn:Int) (pt:ByteArray) (sec:Bool) (hs:SySt B g A c l i s w) (hi:i<l.length) (h0:0<i) (hf:l.length<=i+f) (hsz:s.size<=100*i+49) :
  Calls Tryz.prog 169 #[.pointer (some ⟨g,0,none⟩),.agg #[.int .i64 po,.string pt,.int .i64 pn],.bool sec] w (SyTo B g A c l (tEnd l i) (s++kidX po (opAt l i) sec (textX l f i)) w):=by
 have h9:=low_at hT hi h0
 have hdl:=(text_small hT hf hi h9).2
 have hzl:=(tEnd_bd hi).2
 have HI:=hd_ (fun s' w' hs' hz'=>ih i s' w' hs' hi hf h9 hz')
 obtain ⟨b,off,op,t,n,rfl,hb,hnd,hts,d1,d2,d3⟩:=hs.nds.node (Below.refl _ _) hi
 have hoe:opAt l i=op:=by rw [opAt,getD_at hi,hnd]
 rw [hoe]
 generalize textX l f i=T at *
 generalize tEnd l i=z at *
 obtain ⟨hBg,hgl⟩:=hs.lt
 obtain ⟨c0,c1,f1⟩:=hs.cells
 have hm:=hT.len
 have HS:=hd_ hs
 have HBD:=hd_ (fun w'=>bound_any po pn op n pt t sec w')
 clear hs hnd hoe ih hT h9 f1 hf
 cases hbd:boundF po op sec with
 | true =>
  rw [hbd] at HBD
  have hk:s++kidX po op sec T=s++⟨#[40]⟩++T++⟨#[41]⟩:=by simp [kidX,hbd,ByteArray.append_assoc]
  rw [hk]
  clear hk hbd
  go_enter_defers Tryz.func169,Tryz.ntmps169
  go_wp2_with fail
  obtain ⟨wa,hwa⟩:∃ wa,wa=w.alloc (.cells #[.int .i64 po,.string pt,.int .i64 pn] 61):=⟨_,rfl⟩
  have hBa:Below w.heap.size w wa:=by rw [hwa];exact (Below.refl _ _).alloc (Nat.le_refl _) _
  have hza:wa.heap[w.heap.size]?=some (.cells #[.int .i64 po,.string pt,.int .i64 pn] 61 (0,0)):=by rw [hwa];exact heap_new rfl
  have hO:BesideS g w wa:=by rw [hwa];exact BesideS.alloc _ _
  rw [← hwa]
  obtain ⟨h,hh⟩:∃ h,h=w.heap.size:=⟨_,rfl⟩
  rw [← hh] at hza
  have hlt:h<wa.heap.size:=(Array.getElem?_eq_some_iff.1 hza).1
  have p0:wa.cell? ⟨h,0,none⟩=some (.int .i64 po):=by rw [Lib.cell_of_heap hza];rfl
  have p1:wa.cell? ⟨h,1,none⟩=some (.string pt):=by rw [Lib.cell_of_heap hza];rfl
  have p2:wa.cell? ⟨h,2,none⟩=some (.int .i64 pn):=by rw [Lib.cell_of_heap hza];rfl
  have hgh:g<h:=by omega
  have HBX:=hd_ hza
  have hz:w.heap.size<=wa.heap.size:=hBa.size
  have HM:=hd_ (HS.out.past hBa)
  have HB:=hd_ (hBa.mono HS.out.wr.2)
  have HO:=hd_ hO
  try rw [← hh]
  have hBn:=hBa
  clear hwa hza hh hBa hO
  obtain ⟨e0,e1,-⟩:=HM.out.cells
  have k0:=(hBn.cell (p:=⟨b,off+i*3,none⟩) (by simp;omega)).trans d1
  have k1:=(hBn.cell (p:=⟨b,off+i*3+1,none⟩) (by simp;omega)).trans d2
  have k2:=(hBn.cell (p:=⟨b,off+i*3+2,none⟩) (by simp;omega)).trans d3
  clear c0 c1 d1 d2 d3 hBn
  go_region_held3 (fun w'=>w'.cell? ⟨g,2,none⟩=some (.slice (some ⟨b,off,none⟩) l.length c)/\w'.cell? ⟨g,3,none⟩=some (.int .i64 (i:Nat))/\w'.cell? ⟨h,0,none⟩=some (.int .i64 po)/\w'.cell? ⟨h,1,none⟩=some (.string pt)/\w'.cell? ⟨h,2,none⟩=some (.int .i64 pn)/\w'.cell? ⟨b,off+i*3,none⟩=some (.int .i64 op)/\w'.cell? ⟨b,off+i*3+1,none⟩=some (.string t)/\w'.cell? ⟨b,off+i*3+2,none⟩=some (.int .i64 n))
   (exact ⟨e0,e1,p0,p1,p2,k0,k1,k2⟩)
   (first|(go_at_call 199;refine (HBD.out _).mono ?_;rintro e w1 ⟨rfl,hB⟩;have e0:=(hB.cell (p:=⟨g,2,none⟩) (by simp;omega)).trans e0;have e1:=(hB.cell (p:=⟨g,3,none⟩) (by simp;omega)).trans e1;have p0:=(hB.cell (p:=⟨h,0,none⟩) hlt).trans p0;have p1:=(hB.cell (p:=⟨h,1,none⟩) hlt).trans p1;have p2:=(hB.cell (p:=⟨h,2,none⟩) hlt).trans p2;have k0:=(hB.cell (p:=⟨b,off+i*3,none⟩) (by simp;omega)).trans k0;have k1:=(hB.cell (p:=⟨b,off+i*3+1,none⟩) (by simp;omega)).trans k1;have k2:=(hB.cell (p:=⟨b,off+i*3+2,none⟩) (by simp;omega)).trans k2;have hB:=past_drew hB;have HB:=hd_ (HB.out.trans (hB.mono HM.out.wr.2));have HO:=hd_ (HO.out.trans (BesideS.below hB));have HM:=hd_ (HM.out.past hB);have hz:=Nat.le_trans hz hB.size))
  go_wp2_with (first
   | (go_at_call 114;refine (sst_byte 40 rfl HM.out (by omega)).mono ?_;rintro e w2 ⟨rfl,hm2,hB2,hO2,hz2⟩;have HM:=hd_ hm2;have HB:=hd_ (HB.out.trans hB2);have HO:=hd_ (HO.out.trans hO2);have hz:=Nat.le_trans hz hz2;clear hm2 hB2 hO2 hz2)
   | (go_at_call 61;refine (HI.out _ _ HM.out (by rw [ByteArray.size_append];show s.size+1<=_;omega)).mono ?_;rintro e w3 ⟨rfl,hm2,hB2,hO2,hz2⟩;have HM:=hd_ hm2;have HB:=hd_ (HB.out.trans hB2);have HO:=hd_ (HO.out.trans hO2);have hz:=Nat.le_trans hz hz2;clear hm2 hB2 hO2 hz2))
  refine leaves_cons (f:=114) (args:=#[.pointer (some ⟨g,0,none⟩),.int .u8 41]) (by simp) (by simp [go_sem]) ?_
  refine (sst_byteD 41 rfl _ HM.out (by simp only [ByteArray.size_append];show s.size+1+T.size+1<=_;omega)).mono ?_
  rintro e u' w4 ⟨rfl,rfl,hm2,hB2,hO2,hz2⟩
  exact ⟨_,results_none rfl _ _ _,rfl,hm2,HB.out.trans hB2,HO.out.trans hO2,Nat.le_trans hz hz2⟩
 | false =>
  rw [hbd] at HBD
  have hk:s++kidX po op sec T=s++T:=by simp [kidX,hbd]
  rw [hk]
  clear hk hbd
  go_enter_defers Tryz.func169,Tryz.ntmps169
  go_wp2_with fail
  obtain ⟨wa,hwa⟩:∃ wa,wa=w.alloc (.cells #[.int .i64 po,.string pt,.int .i64 pn] 61):=⟨_,rfl⟩
  have hBa:Below w.heap.size w wa:=by rw [hwa];exact (Below.refl _ _).alloc (Nat.le_refl _) _
  have hza:wa.heap[w.heap.size]?=some (.cells #[.int .i64 po,.string pt,.int .i64 pn] 61 (0,0)):=by rw [hwa];exact heap_new rfl
  have hO:BesideS g w wa:=by rw [hwa];exact BesideS.alloc _ _
  rw [← hwa]
  obtain ⟨h,hh⟩:∃ h,h=w.heap.size:=⟨_,rfl⟩
  rw [← hh] at hza
  have hlt:h<wa.heap.size:=(Array.getElem?_eq_some_iff.1 hza).1
  have p0:wa.cell? ⟨h,0,none⟩=some (.int .i64 po):=by rw [Lib.cell_of_heap hza];rfl
  have p1:wa.cell? ⟨h,1,none⟩=some (.string pt):=by rw [Lib.cell_of_heap hza];rfl
  have p2:wa.cell? ⟨h,2,none⟩=some (.int .i64 pn):=by rw [Lib.cell_of_heap hza];rfl
  have hgh:g<h:=by omega
  have HBX:=hd_ hza
  have hz:w.heap.size<=wa.heap.size:=hBa.size
  have HM:=hd_ (HS.out.past hBa)
  have HB:=hd_ (hBa.mono HS.out.wr.2)
  have HO:=hd_ hO
  try rw [← hh]
  have hBn:=hBa
  clear hwa hza hh hBa hO
  obtain ⟨e0,e1,-⟩:=HM.out.cells
  have k0:=(hBn.cell (p:=⟨b,off+i*3,none⟩) (by simp;omega)).trans d1
  have k1:=(hBn.cell (p:=⟨b,off+i*3+1,none⟩) (by simp;omega)).trans d2
  have k2:=(hBn.cell (p:=⟨b,off+i*3+2,none⟩) (by simp;omega)).trans d3
  clear c0 c1 d1 d2 d3 hBn
  go_region_held3 (fun w'=>w'.cell? ⟨g,2,none⟩=some (.slice (some ⟨b,off,none⟩) l.length c)/\w'.cell? ⟨g,3,none⟩=some (.int .i64 (i:Nat))/\w'.cell? ⟨h,0,none⟩=some (.int .i64 po)/\w'.cell? ⟨h,1,none⟩=some (.string pt)/\w'.cell? ⟨h,2,none⟩=some (.int .i64 pn)/\w'.cell? ⟨b,off+i*3,none⟩=some (.int .i64 op)/\w'.cell? ⟨b,off+i*3+1,none⟩=some (.string t)/\w'.cell? ⟨b,off+i*3+2,none⟩=some (.int .i64 n))
   (exact ⟨e0,e1,p0,p1,p2,k0,k1,k2⟩)
   (first|(go_at_call 199;refine (HBD.out _).mono ?_;rintro e w1 ⟨rfl,hB⟩;have e0:=(hB.cell (p:=⟨g,2,none⟩) (by simp;omega)).trans e0;have e1:=(hB.cell (p:=⟨g,3,none⟩) (by simp;omega)).trans e1;have p0:=(hB.cell (p:=⟨h,0,none⟩) hlt).trans p0;have p1:=(hB.cell (p:=⟨h,1,none⟩) hlt).trans p1;have p2:=(hB.cell (p:=⟨h,2,none⟩) hlt).trans p2;have k0:=(hB.cell (p:=⟨b,off+i*3,none⟩) (by simp;omega)).trans k0;have k1:=(hB.cell (p:=⟨b,off+i*3+1,none⟩) (by simp;omega)).trans k1;have k2:=(hB.cell (p:=⟨b,off+i*3+2,none⟩) (by simp;omega)).trans k2;have hB:=past_drew hB;have HB:=hd_ (HB.out.trans (hB.mono HM.out.wr.2));have HO:=hd_ (HO.out.trans (BesideS.below hB));have HM:=hd_ (HM.out.past hB);have hz:=Nat.le_trans hz hB.size))
  go_wp2_with (go_at_call 61;refine (HI.out _ _ HM.out (by omega)).mono ?_;rintro e w3 ⟨rfl,hm2,hB2,hO2,hz2⟩;have HM:=hd_ hm2;have HB:=hd_ (HB.out.trans hB2);have HO:=hd_ (HO.out.trans hO2);have hz:=Nat.le_trans hz hz2;clear hm2 hB2 hO2 hz2)
  exact ⟨_,results_none rfl _ _ _,rfl,HM.out,HB.out,HO.out,hz⟩
theorem stwo_any {B g c f:Nat} {A:Option Addr} {l:List Nd} (hT:Tr l) (ih:SySaid B g A c l f) (po pn:Int) (a z:Nat) (pt sg s:ByteArray) (w:World) (hP:KidsP l a 2 z) (h0:0<a) (hf:l.length<=a+f) (hs:SySt B g A c l a s w) (hsg:sg.size<=3) (hsz:s.size<=100*a+40) :
  Calls Tryz.prog 113 #[.pointer (some ⟨g,0,none⟩),.agg #[.int .i64 po,.string pt,.int .i64 pn],.string sg] w (SyTo B g A c l z (s++(kidX po (opAt l a) false (textX l f a)++sg++kidX po (opAt l (tEnd l a)) true (textX l f (tEnd l a)))) w):=by
 obtain ⟨q1,q2,r1,r2,r3⟩:a<l.length/\a<tEnd l a/\tEnd l a<l.length/\tEnd l a<tEnd l (tEnd l a)/\tEnd l (tEnd l a)=z:=⟨hP.1,hP.2.1,hP.2.2.1,hP.2.2.2.1,hP.2.2.2.2⟩
 have HK1:=hd_ (fun s' w' hs' hz'=>skid_any hT ih a s' w' po pn pt false hs' q1 h0 hf hz')
 have HK2:=hd_ (fun s' w' hs' hz'=>skid_any hT ih (tEnd l a) s' w' po pn pt true hs' r1 (by omega) (by omega) hz')
 have hx1:=kidX_len po (opAt l a) false (textX l f a)
 have hx2:=(text_small hT hf q1 (low_at hT q1 h0)).2
 rw [r3] at HK2
 generalize kidX po (opAt l a) false (textX l f a)=x at *
 generalize kidX po (opAt l (tEnd l a)) true (textX l f (tEnd l a))=y at *
 have hm:=hT.len
 rw [show s++(x++sg++y)=s++x++sg++y by simp [ByteArray.append_assoc]]
 generalize tEnd l a=z' at *
 obtain ⟨hBg,hgl⟩:=hs.lt
 have HS:=hd_ hs
 clear hs hT ih hf h0 hP r2 r3
 go_enter Tryz.func113,Tryz.ntmps113
 go_wp2_with fail
 obtain ⟨wa,hwa⟩:∃ wa,wa=w.alloc (.cells #[.int .i64 po,.string pt,.int .i64 pn] 61):=⟨_,rfl⟩
 have hBa:Below w.heap.size w wa:=by rw [hwa];exact (Below.refl _ _).alloc (Nat.le_refl _) _
 have hza:wa.heap[w.heap.size]?=some (.cells #[.int .i64 po,.string pt,.int .i64 pn] 61 (0,0)):=by rw [hwa];exact heap_new rfl
 have hO:BesideS g w wa:=by rw [hwa];exact BesideS.alloc _ _
 rw [← hwa]
 obtain ⟨h,hh⟩:∃ h,h=w.heap.size:=⟨_,rfl⟩
 rw [← hh] at hza
 have hlt:h<wa.heap.size:=(Array.getElem?_eq_some_iff.1 hza).1
 have p0:wa.cell? ⟨h,0,none⟩=some (.int .i64 po):=by rw [Lib.cell_of_heap hza];rfl
 have p1:wa.cell? ⟨h,1,none⟩=some (.string pt):=by rw [Lib.cell_of_heap hza];rfl
 have p2:wa.cell? ⟨h,2,none⟩=some (.int .i64 pn):=by rw [Lib.cell_of_heap hza];rfl
 have hgh:g<h:=by omega
 have HBX:=hd_ hza
 have hz:w.heap.size<=wa.heap.size:=hBa.size
 have HM:=hd_ (HS.out.past hBa)
 have HB:=hd_ (hBa.mono HS.out.wr.2)
 have HO:=hd_ hO
 try rw [← hh]
 have hBn:=hBa
 clear hwa hza hh hBa hO
 clear hBn
 go_wp2_with (first
  | (go_at_call 169;(fail_if_success have z:=V0);refine (HK1.out _ _ HM.out (by omega)).mono ?_;rintro e w2 ⟨rfl,hm2,hB2,hO2,hz2⟩;have HBX:=hd_ (hO2.tree HBX.out (by omega));have HM:=hd_ hm2;have HB:=hd_ (HB.out.trans hB2);have HO:=hd_ (HO.out.trans hO2);have hz:=Nat.le_trans hz hz2;have V0:=hd_ True.intro;clear hm2 hB2 hO2 hz2)
  | (go_at_call 35;refine (sst_write sg HM.out (by rw [ByteArray.size_append];omega)).mono ?_;rintro e w3 ⟨rfl,hm2,hB2,hO2,hz2⟩;have HBX:=hd_ (hO2.tree HBX.out (by omega));have p0:w3.cell? ⟨h,0,none⟩=some (.int .i64 po):=(by rw [Lib.cell_of_heap HBX.out];rfl);have p1:w3.cell? ⟨h,1,none⟩=some (.string pt):=(by rw [Lib.cell_of_heap HBX.out];rfl);have p2:w3.cell? ⟨h,2,none⟩=some (.int .i64 pn):=(by rw [Lib.cell_of_heap HBX.out];rfl);have HM:=hd_ hm2;have HB:=hd_ (HB.out.trans hB2);have HO:=hd_ (HO.out.trans hO2);have hz:=Nat.le_trans hz hz2;clear hm2 hB2 hO2 hz2)
  | (go_at_call 169;have z:=V0;clear z;refine (HK2.out _ _ HM.out (by simp only [ByteArray.size_append];omega)).mono ?_;rintro e w4 ⟨rfl,hm2,hB2,hO2,hz2⟩;have HM:=hd_ hm2;have HB:=hd_ (HB.out.trans hB2);have HO:=hd_ (HO.out.trans hO2);have hz:=Nat.le_trans hz hz2;clear hm2 hB2 hO2 hz2))
 go_end0
 exact ⟨rfl,HM.out,HB.out,HO.out,hz⟩
theorem kidX_plain {po ko:Int} {b:Bool} {x:ByteArray} (h:po=3∨po=4):kidX po ko b x=x:=by
 have:boundF po ko b=false:=by rcases h with rfl|rfl <;> simp [boundF]
 simp [kidX,this]
theorem kidsP_le2 {l:List Nd}:∀ {m a z:Nat},KidsP l a m z->a<=l.length->a<=z/\z<=l.length:=kidsP_le
theorem skids_any {B g c f:Nat} {A:Option Addr} {l:List Nd} (hT:Tr l) (ih:SySaid B g A c l f) (po:Int) (m a z:Nat) (pn:Int) (pt o e s:ByteArray) (w:World) (hpo:po=3∨po=4) (hpn:pn=m) (hm6:m<=6) (hP:KidsP l a m z) (h0:0<a) (ha:a<=l.length) (hf:l.length<=a+f) (hs:SySt B g A c l a s w)
  (ho:o.size<=10) (he:e.size<=1) (hsz:s.size<=100*a) :
  Calls Tryz.prog 112 #[.pointer (some ⟨g,0,none⟩),.agg #[.int .i64 po,.string pt,.int .i64 pn],.string o,.string e] w (SyTo B g A c l z (s++(o++kidsX (textX l f) (tEnd l) a m++e)) w):=by
 subst hpn
 have hzl:=(kidsP_le hP ha).2
 have hK:∀ (b:Nat) s' w' sec,SySt B g A c l b s' w'->a<=b->b<l.length->s'.size<=100*b+49->Calls Tryz.prog 169 #[.pointer (some ⟨g,0,none⟩),.agg #[.int .i64 po,.string pt,.int .i64 (m:Nat)],.bool sec] w' (SyTo B g A c l (tEnd l b) (s'++textX l f b) w'):=fun b s' w' sec hs' hab hb hz'=>by
  have h:=skid_any hT ih b s' w' po m pt sec hs' hb (by omega) (by omega) hz'
  rw [kidX_plain hpo] at h
  exact h
 have HK:=hd_ hK
 have hTX:∀ b,a<=b->b<l.length->b+1<=tEnd l b/\(textX l f b).size<=24*(tEnd l b-b):=fun b hab hb=>text_small hT (by omega) hb (low_at hT hb (by omega))
 have HTX:=hd_ hTX
 have hm40:=hT.len
 generalize hg:textX l f=G at *
 obtain ⟨hBg,hgl⟩:=hs.lt
 have HS:=hd_ hs
 have HP:=hd_ hP
 have hst:s++(o++kidsX G (tEnd l) a m++e)=s++o++restX G (tEnd l) 0 a m++e:=by rw [rest_start];simp [ByteArray.append_assoc]
 rw [hst]
 obtain ⟨T,hTe⟩:∃ T,T=s++o++restX G (tEnd l) 0 a m:=⟨_,rfl⟩
 rw [← hTe]
 have HTE:=hd_ hTe
 clear hs hT ih hf hP hK hTX hst hTe hg hpo
 go_enter Tryz.func112,Tryz.ntmps112
 go_wp2_with fail
 obtain ⟨wa,hwa⟩:∃ wa,wa=w.alloc (.cells #[.int .i64 po,.string pt,.int .i64 (m:Nat)] 61):=⟨_,rfl⟩
 have hBa:Below w.heap.size w wa:=by rw [hwa];exact (Below.refl _ _).alloc (Nat.le_refl _) _
 have hza:wa.heap[w.heap.size]?=some (.cells #[.int .i64 po,.string pt,.int .i64 (m:Nat)] 61 (0,0)):=by rw [hwa];exact heap_new rfl
 have hO:BesideS g w wa:=by rw [hwa];exact BesideS.alloc _ _
 rw [← hwa]
 obtain ⟨h,hh⟩:∃ h,h=w.heap.size:=⟨_,rfl⟩
 rw [← hh] at hza
 have hlt:h<wa.heap.size:=(Array.getElem?_eq_some_iff.1 hza).1
 have p0:wa.cell? ⟨h,0,none⟩=some (.int .i64 po):=by rw [Lib.cell_of_heap hza];rfl
 have p1:wa.cell? ⟨h,1,none⟩=some (.string pt):=by rw [Lib.cell_of_heap hza];rfl
 have p2:wa.cell? ⟨h,2,none⟩=some (.int .i64 (m:Nat)):=by rw [Lib.cell_of_heap hza];rfl
 have hgh:g<h:=by omega
 have HBX:=hd_ hza
 have hz:w.heap.size<=wa.heap.size:=hBa.size
 have HM:=hd_ (HS.out.past hBa)
 have HB:=hd_ (hBa.mono HS.out.wr.2)
 have HO:=hd_ hO
 try rw [← hh]
 have hBn:=hBa
 clear hwa hza hh hBa hO
 clear hBn p0 p1 p2
 go_upto_region 2 with (go_at_call 35;refine (sst_write o HM.out (by omega)).mono ?_;rintro e w2 ⟨rfl,hm2,hB2,hO2,hz2⟩;have HBX:=hd_ (hO2.tree HBX.out (by omega));have p2:w2.cell? ⟨h,2,none⟩=some (.int .i64 (m:Nat)):=(by rw [Lib.cell_of_heap HBX.out];rfl);have HM:=hd_ hm2;have HB:=hd_ (HB.out.trans hB2);have HO:=hd_ (HO.out.trans hO2);have hz:=Nat.le_trans hz hz2;clear hm2 hB2 hO2 hz2)
 go_wp2_with fail
 go_loopw [8,16] (fun _ k wr=>∃ (j r b:Nat) (s':ByteArray),k=.int .i64 j/\j+r=m/\a<=b/\b<=z/\s'.size<=100*b+40/\Hid (KidsP l b r z)/\Hid (T=s'++restX G (tEnd l) j b r)/\Hid (SySt B g A c l b s' wr)/\Hid (wr.heap[h]?=some (.cells #[.int .i64 po,.string pt,.int .i64 (m:Nat)] 61 (0,0)))/\Hid (Below B w wr)/\Hid (BesideS g w wr)/\w.heap.size<=wr.heap.size) (fun _ k _=>m-(intOf k).toNat)
 case atStart=>exact ⟨0,m,a,s++o,rfl,by omega,by omega,(kidsP_le2 HP.out ha).1,by rw [ByteArray.size_append];omega,HP,HTE,HM,HBX,HB,HO,hz⟩
 case round =>
  clear HM HBX HB HO HP HTE p2 hz
  obtain ⟨j,r,b,s',rfl,hjr,hab,hbz,hs',HP,HTE,HM,HBX,HB,HO,hz⟩:=hrel
  have p0:wr.cell? ⟨h,0,none⟩=some (.int .i64 po):=by rw [Lib.cell_of_heap HBX.out];rfl
  have p1:wr.cell? ⟨h,1,none⟩=some (.string pt):=by rw [Lib.cell_of_heap HBX.out];rfl
  have p2:wr.cell? ⟨h,2,none⟩=some (.int .i64 (m:Nat)):=by rw [Lib.cell_of_heap HBX.out];rfl
  cases r with
  | zero =>
   obtain rfl:j=m:=by omega
   have HZ:Hid (b=z/\T=s'):=hd_ ⟨by have h7:=HP.out;rw [KidsP] at h7;exact h7,by have h8:=HTE.out;rw [rest_end,ByteArray.append_empty] at h8;exact h8⟩
   go_wp2_with (go_at_call 35;refine (sst_write e HM.out (by omega)).mono ?_;rintro e w3 ⟨rfl,hm2,hB2,hO2,hz2⟩;have HM:=hd_ hm2;have HB:=hd_ (HB.out.trans hB2);have HO:=hd_ (HO.out.trans hO2);have hz:=Nat.le_trans hz hz2;clear hm2 hB2 hO2 hz2)
   go_end0
   refine ⟨rfl, ?_,HB.out,HO.out,hz⟩
   rw [HZ.out.2,← HZ.out.1]
   exact HM.out
  | succ r =>
   have hlt:j<m:=by omega
   obtain ⟨q1,q2,q3⟩:b<l.length/\b<tEnd l b/\KidsP l (tEnd l b) r z:=⟨HP.out.1,HP.out.2.1,HP.out.2.2⟩
   have hzz:=(kidsP_le2 q3 (tEnd_bd q1).2).1
   obtain ⟨t1,t2⟩:=HTX.out b hab q1
   have HQ:=hd_ q3
   clear q3
   cases j with
   | zero =>
    have HT2:Hid (T=s'++G b++restX G (tEnd l) (0+1) (tEnd l b) r):=hd_ (by rw [HTE.out,rest_zero,ByteArray.append_assoc])
    generalize hTb:tEnd l b=b' at *
    have HTB:=hd_ hTb;clear hTb
    go_wp2_with (go_at_call 169;refine (HK.out b s' _ _ HM.out hab q1 (by omega)).mono ?_;rw [HTB.out];rintro e w4 ⟨rfl,hm2,hB2,hO2,hz2⟩;have HBX:=hd_ (hO2.tree HBX.out (by omega));have HM:=hd_ hm2;have HB:=hd_ (HB.out.trans hB2);have HO:=hd_ (HO.out.trans hO2);have hz:=Nat.le_trans hz hz2;clear hm2 hB2 hO2 hz2)
    go_roundw
    case measure=>simp [intOf];omega
    case rel=>exact ⟨0+1,r,b',s'++G b,by go_num,by omega,by omega,by omega,by rw [ByteArray.size_append];omega,HQ,HT2,HM,HBX,HB,HO,hz⟩
   | succ j =>
    have HT2:Hid (T=s'++⟨#[44,32]⟩++G b++restX G (tEnd l) (j+1+1) (tEnd l b) r):=hd_ (by rw [HTE.out,rest_succ];simp [ByteArray.append_assoc])
    generalize hTb:tEnd l b=b' at *
    have HTB:=hd_ hTb;clear hTb
    go_wp2_with (first
     | (go_at_call 35;refine (sst_write ⟨#[44,32]⟩ HM.out (by show s'.size+2<=_;omega)).mono ?_;rintro e w3 ⟨rfl,hm2,hB2,hO2,hz2⟩;have HBX:=hd_ (hO2.tree HBX.out (by omega));have p0:w3.cell? ⟨h,0,none⟩=some (.int .i64 po):=(by rw [Lib.cell_of_heap HBX.out];rfl);have p1:w3.cell? ⟨h,1,none⟩=some (.string pt):=(by rw [Lib.cell_of_heap HBX.out];rfl);have p2:w3.cell? ⟨h,2,none⟩=some (.int .i64 (m:Nat)):=(by rw [Lib.cell_of_heap HBX.out];rfl);have HM:=hd_ hm2;have HB:=hd_ (HB.out.trans hB2);have HO:=hd_ (HO.out.trans hO2);have hz:=Nat.le_trans hz hz2;clear hm2 hB2 hO2 hz2)
     | (go_at_call 169;refine (HK.out b _ _ _ HM.out hab q1 (by rw [ByteArray.size_append];show s'.size+2<=_;omega)).mono ?_;rw [HTB.out];rintro e w4 ⟨rfl,hm2,hB2,hO2,hz2⟩;have HBX:=hd_ (hO2.tree HBX.out (by omega));have HM:=hd_ hm2;have HB:=hd_ (HB.out.trans hB2);have HO:=hd_ (HO.out.trans hO2);have hz:=Nat.le_trans hz hz2;clear hm2 hB2 hO2 hz2))
    go_roundw
    case measure=>simp [intOf];omega
    case rel=>exact ⟨j+1+1,r,b',s'++⟨#[44,32]⟩++G b,by go_num,by omega,by omega,by omega,by rw [ByteArray.size_append,ByteArray.size_append];show s'.size+2+(G b).size<=_;omega,HQ,HT2,HM,HBX,HB,HO,hz⟩
theorem SySt.set {B g c i:Nat} {A:Option Addr} {l:List Nd} {s:ByteArray} {w:World} (h:SySt B g A c l i s w) (j:Nat) {v:Int} (hv:v=j):SySt B g A c l j s (w.setCell ⟨g,3,none⟩ (.int .i64 v)):=by
 subst hv
 exact h.step (h.wr.set j) ((Below.refl B w).setCell (p:=⟨g,3,none⟩) h.lt.1 _)
structure SyN (B g h:Nat) (A:Option Addr) (c:Nat) (l:List Nd) (i:Nat) (s:ByteArray) (op:Int) (t:ByteArray) (n:Int) (w0 w:World):Prop where
 st:SySt B g A c l i s w
 nd:w.heap[h]?=some (.cells #[.int .i64 op,.string t,.int .i64 n] 61 (0,0))
 bel:Below B w0 w
 bes:BesideS g w0 w
 lt:g<h
 sz:w0.heap.size<=w.heap.size
theorem SyN.cells {B g h:Nat} {A:Option Addr} {c i:Nat} {l:List Nd} {s:ByteArray} {op n:Int} {t:ByteArray} {w0 w:World} (x:SyN B g h A c l i s op t n w0 w) :
  w.cell? ⟨h,0,none⟩=some (.int .i64 op)/\w.cell? ⟨h,1,none⟩=some (.string t)/\w.cell? ⟨h,2,none⟩=some (.int .i64 n):=by
 refine ⟨?_, ?_, ?_⟩ <;> rw [Lib.cell_of_heap x.nd] <;> rfl
theorem SyN.mk_ {B g h:Nat} {A:Option Addr} {c i:Nat} {l:List Nd} {s:ByteArray} {op n:Int} {t:ByteArray} {w:World} (hs:SySt B g A c l i s w) (hh:h=w.heap.size) (hg:g<h) :
  SyN B g h A c l (i+1) s op t n w (((w.setCell ⟨g,3,none⟩ (.int .i64 ((i:Int)+1))).alloc (.cells #[.int .i64 op,.string t,.int .i64 n] 61)).drew):=by
 have hsz:(w.setCell ⟨g,3,none⟩ (.int .i64 ((i:Int)+1))).heap.size=w.heap.size:=by simp [World.setCell]
 have h1:=hs.set (i+1) (v:=(i:Int)+1) (by omega)
 have b1:Below B w (w.setCell ⟨g,3,none⟩ (.int .i64 ((i:Int)+1))):=(Below.refl B w).setCell (p:=⟨g,3,none⟩) hs.lt.1 _
 have o1:BesideS g w (w.setCell ⟨g,3,none⟩ (.int .i64 ((i:Int)+1))):=BesideS.set _ _ _
 generalize w.setCell ⟨g,3,none⟩ (.int .i64 ((i:Int)+1))=w1 at *
 have b2:Below w1.heap.size w1 ((w1.alloc (.cells #[.int .i64 op,.string t,.int .i64 n] 61)).drew):=((Below.refl _ _).alloc (Nat.le_refl _) _).drew
 exact ⟨h1.past b2,heap_new (by omega),b1.trans (b2.mono h1.wr.2),o1.trans (BesideS.below b2),hg,by have:=b2.size;omega⟩
theorem swrite_1 {B g c:Nat} {A:Option Addr} {l:List Nd} {i:Nat} {t s:ByteArray} {n:Int} {w:World} (hs:SySt B g A c l i s w) (hi:i<l.length) (hnd:l[i]=Nd.mk 1 t n) (h40:l.length<=40) (hsz:s.size<=100*i+50) (n0:0<=n) (n1:n<=999999) :
  Calls Tryz.prog 61 #[.pointer (some ⟨g,0,none⟩)] w (SyTo B g A c l (i+1) (s++⟨(Lib.itoa n).toArray⟩) w):=by
 have k1:IntKind.i64.wrap ((i:Int)+1)=(i:Int)+1:=IntWalk.i64_in _ (by omega)
 have hts6:(⟨(Lib.itoa n).toArray⟩:ByteArray).size<=6:=by
  have:=(itoa_len6 n0 n1).2
  simp only [ByteArray.size,List.size_toArray];omega
 have HIT:=hd_ (fun w' hp=>litoa_any n0 n1 w' hp)
 generalize (⟨(Lib.itoa n).toArray⟩:ByteArray)=T at *
 obtain ⟨b,off,op,t',n',rfl,hb,hnd',hts,d1,d2,d3⟩:=hs.nds.node (Below.refl _ _) hi
 rw [hnd] at hnd'
 cases hnd'
 obtain ⟨hBg,hgl⟩:=hs.lt
 obtain ⟨c0,c1,f1⟩:=hs.cells
 have HS:=hd_ hs
 have hbw:b<w.heap.size:=by omega
 clear hs hnd
 go_enter Tryz.func61,Tryz.ntmps61
 go_wp2
 go_region
 go_upto_region 2 with (fail)
 obtain ⟨h,hh⟩:∃ h,h=w.heap.size:=⟨_,rfl⟩
 rw [← hh]
 refine mk_named (fun wy=>SyN B g h (some ⟨b,off,none⟩) c l (i+1) s 1 t n w wy) ?named ?_
 case named=>exact SyN.mk_ HS.out hh (by omega)
 clear hh c0 c1 f1 d1 d2 d3 HS
 rintro wy hy
 obtain ⟨y0,y1,y2⟩:=hy.cells
 have HM:=hd_ hy.st;have HBX:=hd_ hy.nd;have HB:=hd_ hy.bel;have HO:=hd_ hy.bes;have hz:=hy.sz;have hlt:=mkheap_lt hy.nd;have hgh:=hy.lt
 clear hy k1
 go_wp2_with fail
 go_region_held3 (fun w'=>w'.cell? ⟨h,0,none⟩=some (.int .i64 1)/\w'.cell? ⟨h,1,none⟩=some (.string t)/\w'.cell? ⟨h,2,none⟩=some (.int .i64 n)) (exact ⟨y0,y1,y2⟩)
  (first
   | (go_at_call 71;refine (HIT.out _ (HM.out.pow.past (Below.refl _ _).drew)).mono ?_;rintro e w3 ⟨rfl,hB⟩;have hB:=past_drew hB;have y0:=(hB.cell (p:=⟨h,0,none⟩) hlt).trans y0;have y1:=(hB.cell (p:=⟨h,1,none⟩) hlt).trans y1;have y2:=(hB.cell (p:=⟨h,2,none⟩) hlt).trans y2;have HBX:=hd_ ((hB.block h hlt).trans HBX.out);have HB:=hd_ (HB.out.trans (hB.mono HM.out.wr.2));have HO:=hd_ (HO.out.trans (BesideS.below hB));have HM:=hd_ (HM.out.past hB);have hz:=Nat.le_trans hz hB.size)
   | (go_at_call 35;refine (sst_write T HM.out (by omega)).mono ?_;rintro e w4 ⟨rfl,hm2,hB2,hO2,hz2⟩;have HBX:=hd_ (hO2.tree HBX.out (by omega));have y0:w4.cell? ⟨h,0,none⟩=some (.int .i64 1):=(by rw [Lib.cell_of_heap HBX.out];rfl);have y1:w4.cell? ⟨h,1,none⟩=some (.string t):=(by rw [Lib.cell_of_heap HBX.out];rfl);have y2:w4.cell? ⟨h,2,none⟩=some (.int .i64 n):=(by rw [Lib.cell_of_heap HBX.out];rfl);have HM:=hd_ hm2;have HB:=hd_ (HB.out.trans hB2);have HO:=hd_ (HO.out.trans hO2);have hz:=Nat.le_trans hz hz2;clear hm2 hB2 hO2 hz2))
 go_wp2
 go_end0
 exact ⟨rfl,HM.out,HB.out,HO.out,hz⟩
theorem swrite_2 {B g c:Nat} {A:Option Addr} {l:List Nd} {i:Nat} {t s:ByteArray} {n:Int} {w:World} (hs:SySt B g A c l i s w) (hi:i<l.length) (hnd:l[i]=Nd.mk 2 t n) (h40:l.length<=40) (hsz:s.size<=100*i+50) (ht8:t.size<=8) :
  Calls Tryz.prog 61 #[.pointer (some ⟨g,0,none⟩)] w (SyTo B g A c l (i+1) (s++t) w):=by
 have k1:IntKind.i64.wrap ((i:Int)+1)=(i:Int)+1:=IntWalk.i64_in _ (by omega)
 obtain ⟨b,off,op,t',n',rfl,hb,hnd',hts,d1,d2,d3⟩:=hs.nds.node (Below.refl _ _) hi
 rw [hnd] at hnd'
 cases hnd'
 obtain ⟨hBg,hgl⟩:=hs.lt
 obtain ⟨c0,c1,f1⟩:=hs.cells
 have HS:=hd_ hs
 have hbw:b<w.heap.size:=by omega
 clear hs hnd
 go_enter Tryz.func61,Tryz.ntmps61
 go_wp2
 go_region
 go_upto_region 2 with (fail)
 obtain ⟨h,hh⟩:∃ h,h=w.heap.size:=⟨_,rfl⟩
 rw [← hh]
 refine mk_named (fun wy=>SyN B g h (some ⟨b,off,none⟩) c l (i+1) s 2 t n w wy) ?named ?_
 case named=>exact SyN.mk_ HS.out hh (by omega)
 clear hh c0 c1 f1 d1 d2 d3 HS
 rintro wy hy
 obtain ⟨y0,y1,y2⟩:=hy.cells
 have HM:=hd_ hy.st;have HBX:=hd_ hy.nd;have HB:=hd_ hy.bel;have HO:=hd_ hy.bes;have hz:=hy.sz;have hlt:=mkheap_lt hy.nd;have hgh:=hy.lt
 clear hy k1
 go_wp2_with fail
 go_region_held3 (fun w'=>w'.cell? ⟨h,0,none⟩=some (.int .i64 2)/\w'.cell? ⟨h,1,none⟩=some (.string t)/\w'.cell? ⟨h,2,none⟩=some (.int .i64 n)) (exact ⟨y0,y1,y2⟩)
  (first|(go_at_call 35;refine (sst_write t (HM.out.past (Below.refl _ _).drew) (by omega)).mono ?_;rintro e w4 ⟨rfl,hm2,hB2,hO2,hz2⟩;have hB2:=below_undrew hB2;have hO2:BesideS g wy w4:=hO2;have HBX:=hd_ (hO2.tree HBX.out (by omega));have y0:w4.cell? ⟨h,0,none⟩=some (.int .i64 2):=(by rw [Lib.cell_of_heap HBX.out];rfl);have y1:w4.cell? ⟨h,1,none⟩=some (.string t):=(by rw [Lib.cell_of_heap HBX.out];rfl);have y2:w4.cell? ⟨h,2,none⟩=some (.int .i64 n):=(by rw [Lib.cell_of_heap HBX.out];rfl);have HM:=hd_ hm2;have HB:=hd_ (HB.out.trans hB2);have HO:=hd_ (HO.out.trans hO2);have hz:=Nat.le_trans hz hz2;clear hm2 hB2 hO2 hz2))
 go_wp2
 go_end0
 exact ⟨rfl,HM.out,HB.out,HO.out,hz⟩
theorem rq14 {P:Prop} (h:P:=by
 clear hh c0 c1 f1 d1 d2 d3 HS
 rintro wy hy
 obtain ⟨y0,y1,y2⟩:=hy.cells
 have HM:=hd_ hy.st;have HBX:=hd_ hy.nd;have HB:=hd_ hy.bel;have HO:=hd_ hy.bes;have hz:=hy.sz;have hlt:=mkheap_lt hy.nd;have hgh:=hy.lt
 clear hy k1
 go_wp2_with (go_at_call 112;refine (HL.out _ HM.out).mono ?_;rintro e w3 ⟨rfl,hm2,hB2,hO2,hz2⟩;have HM:=hd_ hm2;have HB:=hd_ (HB.out.trans hB2);have HO:=hd_ (HO.out.trans hO2);have hz:=Nat.le_trans hz hz2;clear hm2 hB2 hO2 hz2)
 go_end0
 exact ⟨rfl,HM.out,HB.out,HO.out,hz⟩):P:=h
theorem swrite_3 {B g c:Nat} {A:Option Addr} {l:List Nd} {i:Nat} {t s:ByteArray} {n:Int} {w:World} (hs:SySt B g A c l i s w) (hi:i<l.length) (hnd:l[i]=Nd.mk 3 t n) (h40:l.length<=40) (_hsz:s.size<=100*i+50) (ht8:t.size<=8) {R:ByteArray} {z:Nat} (HL:Hid (∀ w',SySt B g A c l (i+1) s w'->Calls Tryz.prog 112 #[.pointer (some ⟨g,0,none⟩),.agg #[.int .i64 3,.string t,.int .i64 n],.string (t++⟨#[40]⟩),.string ⟨#[41]⟩] w' (SyTo B g A c l z (s++R) w'))) :
  Calls Tryz.prog 61 #[.pointer (some ⟨g,0,none⟩)] w (SyTo B g A c l z (s++R) w):=by
 have k1:IntKind.i64.wrap ((i:Int)+1)=(i:Int)+1:=IntWalk.i64_in _ (by omega)
 obtain ⟨b,off,op,t',n',rfl,hb,hnd',hts,d1,d2,d3⟩:=hs.nds.node (Below.refl _ _) hi
 rw [hnd] at hnd'
 cases hnd'
 obtain ⟨hBg,hgl⟩:=hs.lt
 obtain ⟨c0,c1,f1⟩:=hs.cells
 have HS:=hd_ hs
 have hbw:b<w.heap.size:=by omega
 clear hs hnd
 go_enter Tryz.func61,Tryz.ntmps61
 go_wp2
 go_region
 go_upto_region 2 with (fail)
 obtain ⟨h,hh⟩:∃ h,h=w.heap.size:=⟨_,rfl⟩
 rw [← hh]
 refine mk_named (fun wy=>SyN B g h (some ⟨b,off,none⟩) c l (i+1) s 3 t n w wy) ?named ?_
 case named=>exact SyN.mk_ HS.out hh (by omega)
 exact rq14
theorem swrite_4 {B g c:Nat} {A:Option Addr} {l:List Nd} {i:Nat} {t s:ByteArray} {n:Int} {w:World} (hs:SySt B g A c l i s w) (hi:i<l.length) (hnd:l[i]=Nd.mk 4 t n) (h40:l.length<=40) (_hsz:s.size<=100*i+50) {R:ByteArray} {z:Nat} (HL:Hid (∀ w',SySt B g A c l (i+1) s w'->Calls Tryz.prog 112 #[.pointer (some ⟨g,0,none⟩),.agg #[.int .i64 4,.string t,.int .i64 n],.string ⟨#[91]⟩,.string ⟨#[93]⟩] w' (SyTo B g A c l z (s++R) w'))) :
  Calls Tryz.prog 61 #[.pointer (some ⟨g,0,none⟩)] w (SyTo B g A c l z (s++R) w):=by
 have k1:IntKind.i64.wrap ((i:Int)+1)=(i:Int)+1:=IntWalk.i64_in _ (by omega)
 obtain ⟨b,off,op,t',n',rfl,hb,hnd',hts,d1,d2,d3⟩:=hs.nds.node (Below.refl _ _) hi
 rw [hnd] at hnd'
 cases hnd'
 obtain ⟨hBg,hgl⟩:=hs.lt
 obtain ⟨c0,c1,f1⟩:=hs.cells
 have HS:=hd_ hs
 have hbw:b<w.heap.size:=by omega
 clear hs hnd
 go_enter Tryz.func61,Tryz.ntmps61
 go_wp2
 go_region
 go_upto_region 2 with (fail)
 obtain ⟨h,hh⟩:∃ h,h=w.heap.size:=⟨_,rfl⟩
 rw [← hh]
 refine mk_named (fun wy=>SyN B g h (some ⟨b,off,none⟩) c l (i+1) s 4 t n w wy) ?named ?_
 case named=>exact SyN.mk_ HS.out hh (by omega)
 exact rq14
theorem rq15 {P:Prop} (h:P:=by
 clear hh c0 c1 f1 d1 d2 d3 HS
 rintro wy hy
 obtain ⟨y0,y1,y2⟩:=hy.cells
 have HM:=hd_ hy.st;have HBX:=hd_ hy.nd;have HB:=hd_ hy.bel;have HO:=hd_ hy.bes;have hz:=hy.sz;have hlt:=mkheap_lt hy.nd;have hgh:=hy.lt
 clear hy k1
 go_wp2_with (go_at_call 113;refine (HL.out _ HM.out).mono ?_;rintro e w3 ⟨rfl,hm2,hB2,hO2,hz2⟩;have HM:=hd_ hm2;have HB:=hd_ (HB.out.trans hB2);have HO:=hd_ (HO.out.trans hO2);have hz:=Nat.le_trans hz hz2;clear hm2 hB2 hO2 hz2)
 go_end0
 exact ⟨rfl,HM.out,HB.out,HO.out,hz⟩):P:=h
theorem swrite_5 {B g c:Nat} {A:Option Addr} {l:List Nd} {i:Nat} {t s:ByteArray} {n:Int} {w:World} (hs:SySt B g A c l i s w) (hi:i<l.length) (hnd:l[i]=Nd.mk 5 t n) (h40:l.length<=40) (_hsz:s.size<=100*i+50) {R:ByteArray} {z:Nat} (HL:Hid (∀ w',SySt B g A c l (i+1) s w'->Calls Tryz.prog 113 #[.pointer (some ⟨g,0,none⟩),.agg #[.int .i64 5,.string t,.int .i64 n],.string ⟨#[32,43,32]⟩] w' (SyTo B g A c l z (s++R) w'))) :
  Calls Tryz.prog 61 #[.pointer (some ⟨g,0,none⟩)] w (SyTo B g A c l z (s++R) w):=by
 have k1:IntKind.i64.wrap ((i:Int)+1)=(i:Int)+1:=IntWalk.i64_in _ (by omega)
 obtain ⟨b,off,op,t',n',rfl,hb,hnd',hts,d1,d2,d3⟩:=hs.nds.node (Below.refl _ _) hi
 rw [hnd] at hnd'
 cases hnd'
 obtain ⟨hBg,hgl⟩:=hs.lt
 obtain ⟨c0,c1,f1⟩:=hs.cells
 have HS:=hd_ hs
 have hbw:b<w.heap.size:=by omega
 clear hs hnd
 go_enter Tryz.func61,Tryz.ntmps61
 go_wp2
 go_region
 go_upto_region 2 with (fail)
 obtain ⟨h,hh⟩:∃ h,h=w.heap.size:=⟨_,rfl⟩
 rw [← hh]
 refine mk_named (fun wy=>SyN B g h (some ⟨b,off,none⟩) c l (i+1) s 5 t n w wy) ?named ?_
 case named=>exact SyN.mk_ HS.out hh (by omega)
 exact rq15
theorem swrite_6 {B g c:Nat} {A:Option Addr} {l:List Nd} {i:Nat} {t s:ByteArray} {n:Int} {w:World} (hs:SySt B g A c l i s w) (hi:i<l.length) (hnd:l[i]=Nd.mk 6 t n) (h40:l.length<=40) (_hsz:s.size<=100*i+50) {R:ByteArray} {z:Nat} (HL:Hid (∀ w',SySt B g A c l (i+1) s w'->Calls Tryz.prog 113 #[.pointer (some ⟨g,0,none⟩),.agg #[.int .i64 6,.string t,.int .i64 n],.string ⟨#[32,42,32]⟩] w' (SyTo B g A c l z (s++R) w'))) :
  Calls Tryz.prog 61 #[.pointer (some ⟨g,0,none⟩)] w (SyTo B g A c l z (s++R) w):=by
 have k1:IntKind.i64.wrap ((i:Int)+1)=(i:Int)+1:=IntWalk.i64_in _ (by omega)
 obtain ⟨b,off,op,t',n',rfl,hb,hnd',hts,d1,d2,d3⟩:=hs.nds.node (Below.refl _ _) hi
 rw [hnd] at hnd'
 cases hnd'
 obtain ⟨hBg,hgl⟩:=hs.lt
 obtain ⟨c0,c1,f1⟩:=hs.cells
 have HS:=hd_ hs
 have hbw:b<w.heap.size:=by omega
 clear hs hnd
 go_enter Tryz.func61,Tryz.ntmps61
 go_wp2
 go_region
 go_upto_region 2 with (fail)
 obtain ⟨h,hh⟩:∃ h,h=w.heap.size:=⟨_,rfl⟩
 rw [← hh]
 refine mk_named (fun wy=>SyN B g h (some ⟨b,off,none⟩) c l (i+1) s 6 t n w wy) ?named ?_
 case named=>exact SyN.mk_ HS.out hh (by omega)
 exact rq15
theorem swrite_7 {B g c:Nat} {A:Option Addr} {l:List Nd} {i:Nat} {t s:ByteArray} {n:Int} {w:World} (hs:SySt B g A c l i s w) (hi:i<l.length) (hnd:l[i]=Nd.mk 7 t n) (h40:l.length<=40) (hsz:s.size<=100*i+50) (ht8:t.size<=8) {T:ByteArray} {z:Nat} (hTl:T.size<=1000) (HD:Hid (∀ s' w',SySt B g A c l (i+1) s' w'->s'.size<=100*(i+1)+50->Calls Tryz.prog 61 #[.pointer (some ⟨g,0,none⟩)] w' (SyTo B g A c l z (s'++T) w'))) :
  Calls Tryz.prog 61 #[.pointer (some ⟨g,0,none⟩)] w (SyTo B g A c l z (s++(letB++t++⟨#[32,61,32]⟩++T++⟨#[59]⟩)) w):=by
 have k1:IntKind.i64.wrap ((i:Int)+1)=(i:Int)+1:=IntWalk.i64_in _ (by omega)
 have hl4:(letB++t++⟨#[32,61,32]⟩:ByteArray).size=4+t.size+3:=by simp only [ByteArray.size_append];rfl
 rw [show s++(letB++t++⟨#[32,61,32]⟩++T++⟨#[59]⟩)=s++(letB++t++⟨#[32,61,32]⟩)++T++⟨#[59]⟩ by simp [ByteArray.append_assoc]]
 have hcat0:∀ w',(Op.stringOp .add ⟨#[108,101,116,32]⟩ t).run Tryz.prog w'=.ok (.string (letB++t)) w':=fun w'=>run_string_add_sum w' _ t (by show 4+t.size<=_;omega)
 have hcat1:∀ w',(Op.stringOp .add (letB++t) ⟨#[32,61,32]⟩).run Tryz.prog w'=.ok (.string (letB++t++⟨#[32,61,32]⟩)) w':=fun w'=>run_string_add_sum w' _ _ (by rw [ByteArray.size_append];show 4+t.size+3<=_;omega)
 generalize hLT:letB++t++⟨#[32,61,32]⟩=LT at *
 clear hLT
 obtain ⟨b,off,op,t',n',rfl,hb,hnd',hts,d1,d2,d3⟩:=hs.nds.node (Below.refl _ _) hi
 rw [hnd] at hnd'
 cases hnd'
 obtain ⟨hBg,hgl⟩:=hs.lt
 obtain ⟨c0,c1,f1⟩:=hs.cells
 have HS:=hd_ hs
 have hbw:b<w.heap.size:=by omega
 clear hs hnd
 go_enter Tryz.func61,Tryz.ntmps61
 go_wp2
 go_region
 go_upto_region 2 with (fail)
 obtain ⟨h,hh⟩:∃ h,h=w.heap.size:=⟨_,rfl⟩
 rw [← hh]
 refine mk_named (fun wy=>SyN B g h (some ⟨b,off,none⟩) c l (i+1) s 7 t n w wy) ?named ?_
 case named=>exact SyN.mk_ HS.out hh (by omega)
 clear hh c0 c1 f1 d1 d2 d3 HS
 rintro wy hy
 obtain ⟨y0,y1,y2⟩:=hy.cells
 have HM:=hd_ hy.st;have HBX:=hd_ hy.nd;have HB:=hd_ hy.bel;have HO:=hd_ hy.bes;have hz:=hy.sz;have hlt:=mkheap_lt hy.nd;have hgh:=hy.lt
 clear hy k1
 go_wp2_with fail
 go_region_held3 (fun w'=>w'.cell? ⟨h,0,none⟩=some (.int .i64 7)/\w'.cell? ⟨h,1,none⟩=some (.string t)/\w'.cell? ⟨h,2,none⟩=some (.int .i64 n)) (exact ⟨y0,y1,y2⟩)
  (first|(go_at_call 35;refine (sst_write LT (HM.out.past (Below.refl _ _).drew) (by omega)).mono ?_;rintro e w4 ⟨rfl,hm2,hB2,hO2,hz2⟩;have hB2:=below_undrew hB2;have hO2:BesideS g wy w4:=hO2;have HBX:=hd_ (hO2.tree HBX.out (by omega));have y0:w4.cell? ⟨h,0,none⟩=some (.int .i64 7):=(by rw [Lib.cell_of_heap HBX.out];rfl);have y1:w4.cell? ⟨h,1,none⟩=some (.string t):=(by rw [Lib.cell_of_heap HBX.out];rfl);have y2:w4.cell? ⟨h,2,none⟩=some (.int .i64 n):=(by rw [Lib.cell_of_heap HBX.out];rfl);have HM:=hd_ hm2;have HB:=hd_ (HB.out.trans hB2);have HO:=hd_ (HO.out.trans hO2);have hz:=Nat.le_trans hz hz2;clear hm2 hB2 hO2 hz2))
 clear hcat0 hcat1
 go_wp2_with (first
  | (go_at_call 61;refine (HD.out _ _ HM.out (by rw [ByteArray.size_append];omega)).mono ?_;rintro e w5 ⟨rfl,hm2,hB2,hO2,hz2⟩;have HM:=hd_ hm2;have HB:=hd_ (HB.out.trans hB2);have HO:=hd_ (HO.out.trans hO2);have hz:=Nat.le_trans hz hz2;clear hm2 hB2 hO2 hz2)
  | (go_at_call 114;refine (sst_byte 59 rfl HM.out (by simp only [ByteArray.size_append];omega)).mono ?_;rintro e w6 ⟨rfl,hm2,hB2,hO2,hz2⟩;have HM:=hd_ hm2;have HB:=hd_ (HB.out.trans hB2);have HO:=hd_ (HO.out.trans hO2);have hz:=Nat.le_trans hz hz2;clear hm2 hB2 hO2 hz2))
 go_end0
 exact ⟨rfl,HM.out,HB.out,HO.out,hz⟩
theorem swrite_8 {B g c:Nat} {A:Option Addr} {l:List Nd} {i:Nat} {t s:ByteArray} {n:Int} {w:World} (hs:SySt B g A c l i s w) (hi:i<l.length) (hnd:l[i]=Nd.mk 8 t n) (h40:l.length<=40) (hsz:s.size<=100*i+50) {T:ByteArray} {z:Nat} (hTl:T.size<=1000) (HD:Hid (∀ s' w',SySt B g A c l (i+1) s' w'->s'.size<=100*(i+1)+50->Calls Tryz.prog 61 #[.pointer (some ⟨g,0,none⟩)] w' (SyTo B g A c l z (s'++T) w'))) :
  Calls Tryz.prog 61 #[.pointer (some ⟨g,0,none⟩)] w (SyTo B g A c l z (s++(T++⟨#[59]⟩)) w):=by
 have k1:IntKind.i64.wrap ((i:Int)+1)=(i:Int)+1:=IntWalk.i64_in _ (by omega)
 rw [show s++(T++⟨#[59]⟩)=s++T++⟨#[59]⟩ by simp [ByteArray.append_assoc]]
 obtain ⟨b,off,op,t',n',rfl,hb,hnd',hts,d1,d2,d3⟩:=hs.nds.node (Below.refl _ _) hi
 rw [hnd] at hnd'
 cases hnd'
 obtain ⟨hBg,hgl⟩:=hs.lt
 obtain ⟨c0,c1,f1⟩:=hs.cells
 have HS:=hd_ hs
 have hbw:b<w.heap.size:=by omega
 clear hs hnd
 go_enter Tryz.func61,Tryz.ntmps61
 go_wp2
 go_region
 go_upto_region 2 with (fail)
 obtain ⟨h,hh⟩:∃ h,h=w.heap.size:=⟨_,rfl⟩
 rw [← hh]
 refine mk_named (fun wy=>SyN B g h (some ⟨b,off,none⟩) c l (i+1) s 8 t n w wy) ?named ?_
 case named=>exact SyN.mk_ HS.out hh (by omega)
 clear hh c0 c1 f1 d1 d2 d3 HS
 rintro wy hy
 obtain ⟨y0,y1,y2⟩:=hy.cells
 have HM:=hd_ hy.st;have HBX:=hd_ hy.nd;have HB:=hd_ hy.bel;have HO:=hd_ hy.bes;have hz:=hy.sz;have hlt:=mkheap_lt hy.nd;have hgh:=hy.lt
 clear hy k1
 go_wp2_with (first
  | (go_at_call 61;refine (HD.out _ _ HM.out (by omega)).mono ?_;rintro e w5 ⟨rfl,hm2,hB2,hO2,hz2⟩;have HM:=hd_ hm2;have HB:=hd_ (HB.out.trans hB2);have HO:=hd_ (HO.out.trans hO2);have hz:=Nat.le_trans hz hz2;clear hm2 hB2 hO2 hz2)
  | (go_at_call 114;refine (sst_byte 59 rfl HM.out (by simp only [ByteArray.size_append];omega)).mono ?_;rintro e w6 ⟨rfl,hm2,hB2,hO2,hz2⟩;have HM:=hd_ hm2;have HB:=hd_ (HB.out.trans hB2);have HO:=hd_ (HO.out.trans hO2);have hz:=Nat.le_trans hz hz2;clear hm2 hB2 hO2 hz2))
 go_end0
 exact ⟨rfl,HM.out,HB.out,HO.out,hz⟩
theorem llisted_any {g c f:Nat} {A:Option Addr} {l:List Nd} (hT:Tr l) (ih:MakeSaid g A c l f) (po:Int) (m a z:Nat) (pn:Int) (pt o e:ByteArray) (w:World) (hpo:po=3∨po=4) (hpn:pn=m) (hm6:m<=6) (hP:KidsP l a m z) (h0:0<a) (ha:a<=l.length) (hf:l.length<=a+f) (hs:MkSt g A c l a w)
  (ho:o.size<=100) (he:e.size<=100) :
  Calls Tryz.prog 148 #[.pointer (some ⟨g,0,none⟩),.agg #[.int .i64 po,.string pt,.int .i64 pn],.string o,.string e] w (MkTo g A c l (listD o e m (kidsD (docT l f) (tEnd l) a m)) z w):=by
 have hgl:=hs.lt
 have HS:=hd_ hs
 cases m with
 | zero =>
  rw [KidsP] at hP
  subst hP
  obtain rfl:pn=0:=by simpa using hpn
  rw [show listD o e 0 (kidsD (docT l f) (tEnd l) a 0)=wordN (o++e) by simp [listD]]
  have hsz:(o++e).size<=maxLen:=by rw [ByteArray.size_append];simp only [maxLen];omega
  have HSZ:=hd_ hsz
  clear hs hT ih hpo hf ha h0 hpn hsz
  go_enter Tryz.func148,Tryz.ntmps148
  go_wp2_with fail
  obtain ⟨wa,hwa⟩:∃ wa,wa=w.alloc (.cells #[.int .i64 po,.string pt,.int .i64 0] 61):=⟨_,rfl⟩
  have hBa:Below w.heap.size w wa:=by rw [hwa];exact (Below.refl _ _).alloc (Nat.le_refl _) _
  have hza:wa.heap[w.heap.size]?=some (.cells #[.int .i64 po,.string pt,.int .i64 0] 61 (0,0)):=by rw [hwa];exact heap_new rfl
  rw [← hwa]
  obtain ⟨h,hh⟩:∃ h,h=w.heap.size:=⟨_,rfl⟩
  rw [← hh] at hza
  have hlt:h<wa.heap.size:=(Array.getElem?_eq_some_iff.1 hza).1
  have p0:wa.cell? ⟨h,0,none⟩=some (.int .i64 po):=by rw [Lib.cell_of_heap hza];rfl
  have p1:wa.cell? ⟨h,1,none⟩=some (.string pt):=by rw [Lib.cell_of_heap hza];rfl
  have p2:wa.cell? ⟨h,2,none⟩=some (.int .i64 0):=by rw [Lib.cell_of_heap hza];rfl
  have hgh:g<h:=by omega
  have HG:Hid (w.grownBy wa (some g)):=hd_ (grown_row _ hBa)
  have hz:w.heap.size<=wa.heap.size:=hBa.size
  have HM:=hd_ (HS.out.past hBa)
  try rw [← hh]
  clear hwa hza hh hBa
  go_wp2_with (go_at_call 147;refine (lword_any (o++e) HSZ.out _).mono ?_;rintro e w2 ⟨A_d,c_d,rfl,hn,hB⟩;have HN:=hd_ (hn.less hz);have HM:=hd_ (HM.out.past hB);have HG:=hd_ (grown_below HG.out hB);clear hn hB)
  go_ret
  exact ⟨A_d,c_d,rfl,HN.out,HM.out,HG.out⟩
 | succ m =>
  have hzl:=(kidsP_le hP ha).2
  have hks:=kids_small (f:=f) hT hP h0 hf hzl
  rw [show listD o e (m+1) (kidsD (docT l f) (tEnd l) a (m+1))=groupN (bothN (wordN o) (bothN (deepN (bothN (opN 3) (kidsD (docT l f) (tEnd l) a (m+1)))) (bothN (opN 3) (wordN e)))) by simp [listD]]
  have HI:=hd_ (fun w' hs'=>lkids_any hT ih po pn pt hpo m a z w' hP h0 hf hs' pn (by omega) (by omega))
  have hp0:(pn==0)=false:=by simp;omega
  generalize kidsD (docT l f) (tEnd l) a (m+1)=K at *
  clear hs hT ih hpo hf ha h0 hpn hP hm6
  go_enter Tryz.func148,Tryz.ntmps148
  go_wp2_with fail
  obtain ⟨wa,hwa⟩:∃ wa,wa=w.alloc (.cells #[.int .i64 po,.string pt,.int .i64 pn] 61):=⟨_,rfl⟩
  have hBa:Below w.heap.size w wa:=by rw [hwa];exact (Below.refl _ _).alloc (Nat.le_refl _) _
  have hza:wa.heap[w.heap.size]?=some (.cells #[.int .i64 po,.string pt,.int .i64 pn] 61 (0,0)):=by rw [hwa];exact heap_new rfl
  rw [← hwa]
  obtain ⟨h,hh⟩:∃ h,h=w.heap.size:=⟨_,rfl⟩
  rw [← hh] at hza
  have hlt:h<wa.heap.size:=(Array.getElem?_eq_some_iff.1 hza).1
  have p0:wa.cell? ⟨h,0,none⟩=some (.int .i64 po):=by rw [Lib.cell_of_heap hza];rfl
  have p1:wa.cell? ⟨h,1,none⟩=some (.string pt):=by rw [Lib.cell_of_heap hza];rfl
  have p2:wa.cell? ⟨h,2,none⟩=some (.int .i64 pn):=by rw [Lib.cell_of_heap hza];rfl
  have hgh:g<h:=by omega
  have HG:Hid (w.grownBy wa (some g)):=hd_ (grown_row _ hBa)
  have hz:w.heap.size<=wa.heap.size:=hBa.size
  have HM:=hd_ (HS.out.past hBa)
  try rw [← hh]
  clear hwa hza hh hBa
  go_wp2_with fail
  go_region_held3 (fun w'=>w'.cell? ⟨h,0,none⟩=some (.int .i64 po)/\w'.cell? ⟨h,1,none⟩=some (.string pt)/\w'.cell? ⟨h,2,none⟩=some (.int .i64 pn))
   (exact ⟨p0,p1,p2⟩)
   (first
    | (go_at_call 152;(fail_if_success have z:=T0);refine (lop_any 3 _).mono ?_;rintro e w3 ⟨A_X,c_X,rfl,hn,hB⟩;have hB:=past_drew hB;have HV_X:=hd_ (hn.less hz);have HM:=hd_ (HM.out.past hB);have p0:=(hB.cell (p:=⟨h,0,none⟩) hlt).trans p0;have p1:=(hB.cell (p:=⟨h,1,none⟩) hlt).trans p1;have p2:=(hB.cell (p:=⟨h,2,none⟩) hlt).trans p2;have HG:=hd_ (grown_below HG.out hB);have hz:=Nat.le_trans hz hB.size;have hlt:=Nat.lt_of_lt_of_le hlt hB.size;clear hn hB;have T0:=hd_ True.intro)
    | (go_at_call 188;(fail_if_success have z:=T1);have z:=T0;clear z;refine (HI.out _ HM.out).mono ?_;rintro e w4 ⟨A_K,c_K,rfl,hn,hm,hG⟩;have HV_K:=hd_ (hn.less hz);have HM:=hd_ hm;have HV_X:=hd_ (HV_X.out.grow hG (fun k e=>by injection e with e;omega));have p0:=(hG.cell p0 (by simp;omega));have p1:=(hG.cell p1 (by simp;omega));have p2:=(hG.cell p2 (by simp;omega));have HG:=hd_ (grown_trans HG.out hG);have hz:=Nat.le_trans hz hG.size;have hlt:=Nat.lt_of_lt_of_le hlt hG.size;clear hn hm hG;have T1:=hd_ True.intro)
    | (go_at_call 151;(fail_if_success have z:=T2);have z:=T1;clear z;refine (lboth_any _ _ _ _ _ _ _ HV_X.out.1 HV_K.out.1 (by (repeat (first|rw [bothN_len]|rw [wordN_len]|rw [opN_len]|rw [deepN_len]|rw [groupN_len]));omega)).mono ?_;rintro e w5 ⟨A_Y,c_Y,rfl,hn,hB⟩;have HV_Y:=hd_ (hn.less hz);have HM:=hd_ (HM.out.past hB);have p0:=(hB.cell (p:=⟨h,0,none⟩) hlt).trans p0;have p1:=(hB.cell (p:=⟨h,1,none⟩) hlt).trans p1;have p2:=(hB.cell (p:=⟨h,2,none⟩) hlt).trans p2;have HG:=hd_ (grown_below HG.out hB);have hz:=Nat.le_trans hz hB.size;have hlt:=Nat.lt_of_lt_of_le hlt hB.size;clear hn hB;have T2:=hd_ True.intro)
    | (go_at_call 150;(fail_if_success have z:=T3);have z:=T2;clear z;refine (ldeep_any _ _ _ _ HV_Y.out.1 (by (repeat (first|rw [bothN_len]|rw [wordN_len]|rw [opN_len]|rw [deepN_len]|rw [groupN_len]));omega)).mono ?_;rintro e w6 ⟨A_I,c_I,rfl,hn,hB⟩;have HV_I:=hd_ (hn.less hz);have HM:=hd_ (HM.out.past hB);have p0:=(hB.cell (p:=⟨h,0,none⟩) hlt).trans p0;have p1:=(hB.cell (p:=⟨h,1,none⟩) hlt).trans p1;have p2:=(hB.cell (p:=⟨h,2,none⟩) hlt).trans p2;have HG:=hd_ (grown_below HG.out hB);have hz:=Nat.le_trans hz hB.size;have hlt:=Nat.lt_of_lt_of_le hlt hB.size;clear hn hB;have T3:=hd_ True.intro))
  go_wp2_with (first
   | (go_at_call 147;(fail_if_success have z:=U0);refine (lword_any o (by simp only [maxLen];omega) _).mono ?_;rintro e w7 ⟨A_O,c_O,rfl,hn,hB⟩;have HV_O:=hd_ (hn.less hz);have HM:=hd_ (HM.out.past hB);have HV_I:=hd_ (HV_I.out.past hB);have HG:=hd_ (grown_below HG.out hB);have hz:=Nat.le_trans hz hB.size;clear hn hB;have U0:=hd_ True.intro)
   | (go_at_call 152;(fail_if_success have z:=U1);have z:=U0;clear z;refine (lop_any 3 _).mono ?_;rintro e w8 ⟨A_S,c_S,rfl,hn,hB⟩;have HV_S:=hd_ (hn.less hz);have HM:=hd_ (HM.out.past hB);have HV_I:=hd_ (HV_I.out.past hB);have HV_O:=hd_ (HV_O.out.past hB);have HG:=hd_ (grown_below HG.out hB);have hz:=Nat.le_trans hz hB.size;clear hn hB;have U1:=hd_ True.intro)
   | (go_at_call 147;(fail_if_success have z:=U2);have z:=U1;clear z;refine (lword_any e (by simp only [maxLen];omega) _).mono ?_;rintro e w9 ⟨A_E,c_E,rfl,hn,hB⟩;have HV_E:=hd_ (hn.less hz);have HM:=hd_ (HM.out.past hB);have HV_I:=hd_ (HV_I.out.past hB);have HV_O:=hd_ (HV_O.out.past hB);have HV_S:=hd_ (HV_S.out.past hB);have HG:=hd_ (grown_below HG.out hB);have hz:=Nat.le_trans hz hB.size;clear hn hB;have U2:=hd_ True.intro)
   | (go_at_call 151;(fail_if_success have z:=U3);have z:=U2;clear z;refine (lboth_any _ _ _ _ _ _ _ HV_S.out.1 HV_E.out.1 (by (repeat (first|rw [bothN_len]|rw [wordN_len]|rw [opN_len]|rw [deepN_len]|rw [groupN_len]));omega)).mono ?_;rintro e w10 ⟨A_F,c_F,rfl,hn,hB⟩;have HV_F:=hd_ (hn.less hz);have HM:=hd_ (HM.out.past hB);have HV_I:=hd_ (HV_I.out.past hB);have HV_O:=hd_ (HV_O.out.past hB);have HG:=hd_ (grown_below HG.out hB);have hz:=Nat.le_trans hz hB.size;clear hn hB;have U3:=hd_ True.intro)
   | (go_at_call 151;(fail_if_success have z:=U4);have z:=U3;clear z;refine (lboth_any _ _ _ _ _ _ _ HV_I.out.1 HV_F.out.1 (by (repeat (first|rw [bothN_len]|rw [wordN_len]|rw [opN_len]|rw [deepN_len]|rw [groupN_len]));omega)).mono ?_;rintro e w11 ⟨A_G,c_G,rfl,hn,hB⟩;have HV_G:=hd_ (hn.less hz);have HM:=hd_ (HM.out.past hB);have HV_O:=hd_ (HV_O.out.past hB);have HG:=hd_ (grown_below HG.out hB);have hz:=Nat.le_trans hz hB.size;clear hn hB;have U4:=hd_ True.intro)
   | (go_at_call 151;(fail_if_success have z:=U5);have z:=U4;clear z;refine (lboth_any _ _ _ _ _ _ _ HV_O.out.1 HV_G.out.1 (by (repeat (first|rw [bothN_len]|rw [wordN_len]|rw [opN_len]|rw [deepN_len]|rw [groupN_len]));omega)).mono ?_;rintro e w12 ⟨A_H,c_H,rfl,hn,hB⟩;have HV_H:=hd_ (hn.less hz);have HM:=hd_ (HM.out.past hB);have HG:=hd_ (grown_below HG.out hB);have hz:=Nat.le_trans hz hB.size;clear hn hB;have U5:=hd_ True.intro)
   | (go_at_call 153;(fail_if_success have z:=U6);have z:=U5;clear z;refine (lgroup_any _ _ _ _ HV_H.out.1 (by (repeat (first|rw [bothN_len]|rw [wordN_len]|rw [opN_len]|rw [deepN_len]|rw [groupN_len]));omega)).mono ?_;rintro e w13 ⟨A_R,c_R,rfl,hn,hB⟩;have HV_R:=hd_ (hn.less hz);have HM:=hd_ (HM.out.past hB);have HG:=hd_ (grown_below HG.out hB);have hz:=Nat.le_trans hz hB.size;clear hn hB;have U6:=hd_ True.intro))
  go_ret
  exact ⟨A_R,c_R,rfl,HV_R.out,HM.out,HG.out⟩
theorem ltwo_any {g c f:Nat} {A:Option Addr} {l:List Nd} (hT:Tr l) (ih:MakeSaid g A c l f) (po pn:Int) (a z:Nat) (pt s:ByteArray) (w:World) (hP:KidsP l a 2 z) (h0:0<a) (hf:l.length<=a+f) (hs:MkSt g A c l a w) (hss:s.size<=100) :
  Calls Tryz.prog 149 #[.pointer (some ⟨g,0,none⟩),.agg #[.int .i64 po,.string pt,.int .i64 pn],.string s] w (MkTo g A c l (twoD s (kidD po (opAt l a) false (docT l f a)) (kidD po (opAt l (tEnd l a)) true (docT l f (tEnd l a)))) z w):=by
 obtain ⟨q1,q2,r1,r2,r3⟩:a<l.length/\a<tEnd l a/\tEnd l a<l.length/\tEnd l a<tEnd l (tEnd l a)/\tEnd l (tEnd l a)=z:=⟨hP.1,hP.2.1,hP.2.2.1,hP.2.2.2.1,hP.2.2.2.2⟩
 have HK1:=hd_ (fun w' hs'=>lkid_any hT ih a w' po pn pt false hs' q1 h0 hf)
 have HK2:=hd_ (fun w' hs'=>lkid_any hT ih (tEnd l a) w' po pn pt true hs' r1 (by omega) (by omega))
 have hx1:=kidD_len po (opAt l a) false (docT l f a)
 have hx2:=doc_small hT hf q1 (low_at hT q1 h0)
 have hy1:=kidD_len po (opAt l (tEnd l a)) true (docT l f (tEnd l a))
 have hy2:=doc_small hT (f:=f) (by omega) r1 (low_at hT r1 (by omega))
 rw [r3] at HK2
 rw [twoD]
 generalize kidD po (opAt l a) false (docT l f a)=x at *
 generalize kidD po (opAt l (tEnd l a)) true (docT l f (tEnd l a))=y at *
 have hx:x.length<=1000:=by omega
 have hy:y.length<=1000:=by omega
 have hgl:=hs.lt
 have HS:=hd_ hs
 clear hs hT ih hf h0 hP q1 q2 r1 r2 r3 hx1 hx2 hy1 hy2
 go_enter Tryz.func149,Tryz.ntmps149
 go_wp2_with fail
 obtain ⟨wa,hwa⟩:∃ wa,wa=w.alloc (.cells #[.int .i64 po,.string pt,.int .i64 pn] 61):=⟨_,rfl⟩
 have hBa:Below w.heap.size w wa:=by rw [hwa];exact (Below.refl _ _).alloc (Nat.le_refl _) _
 have hza:wa.heap[w.heap.size]?=some (.cells #[.int .i64 po,.string pt,.int .i64 pn] 61 (0,0)):=by rw [hwa];exact heap_new rfl
 rw [← hwa]
 obtain ⟨h,hh⟩:∃ h,h=w.heap.size:=⟨_,rfl⟩
 rw [← hh] at hza
 have hlt:h<wa.heap.size:=(Array.getElem?_eq_some_iff.1 hza).1
 have p0:wa.cell? ⟨h,0,none⟩=some (.int .i64 po):=by rw [Lib.cell_of_heap hza];rfl
 have p1:wa.cell? ⟨h,1,none⟩=some (.string pt):=by rw [Lib.cell_of_heap hza];rfl
 have p2:wa.cell? ⟨h,2,none⟩=some (.int .i64 pn):=by rw [Lib.cell_of_heap hza];rfl
 have hgh:g<h:=by omega
 have HG:Hid (w.grownBy wa (some g)):=hd_ (grown_row _ hBa)
 have hz:w.heap.size<=wa.heap.size:=hBa.size
 have HM:=hd_ (HS.out.past hBa)
 try rw [← hh]
 clear hwa hza hh hBa
 go_wp2_with (first
  | (go_at_call 189;(fail_if_success have z:=V0);refine (HK1.out _ HM.out).mono ?_;rintro e w2 ⟨A_x,c_x,rfl,hn,hm2,hG⟩;have HV_x:=hd_ (hn.less hz);have p0:=hG.cell p0 (by simp;omega);have p1:=hG.cell p1 (by simp;omega);have p2:=hG.cell p2 (by simp;omega);have HM:=hd_ hm2;have HG:=hd_ (grown_trans HG.out hG);have hz:=Nat.le_trans hz hG.size;have hlt:=Nat.lt_of_lt_of_le hlt hG.size;have V0:=hd_ True.intro;clear hn hm2 hG)
  | (go_at_call 189;have z:=V0;clear z;refine (HK2.out _ HM.out).mono ?_;rintro e w3 ⟨A_y,c_y,rfl,hn,hm2,hG⟩;have HV_y:=hd_ (hn.less hz);have HV_x:=hd_ (HV_x.out.grow hG (fun k e=>by injection e with e;omega));have HM:=hd_ hm2;have HG:=hd_ (grown_trans HG.out hG);have hz:=Nat.le_trans hz hG.size;clear hn hm2 hG)
  | (go_at_call 152;(fail_if_success have z:=T0);refine (lop_any 2 _).mono ?_;rintro e w4 ⟨A_O,c_O,rfl,hn,hB⟩;have HV_O:=hd_ (hn.less hz);have HM:=hd_ (HM.out.past hB);have HV_x:=hd_ (HV_x.out.past hB);have HV_y:=hd_ (HV_y.out.past hB);have HG:=hd_ (grown_below HG.out hB);have hz:=Nat.le_trans hz hB.size;clear hn hB;have T0:=hd_ True.intro)
  | (go_at_call 147;(fail_if_success have z:=T1);have z:=T0;clear z;refine (lword_any s (by simp only [maxLen];omega) _).mono ?_;rintro e w5 ⟨A_S,c_S,rfl,hn,hB⟩;have HV_S:=hd_ (hn.less hz);have HM:=hd_ (HM.out.past hB);have HV_x:=hd_ (HV_x.out.past hB);have HV_y:=hd_ (HV_y.out.past hB);have HV_O:=hd_ (HV_O.out.past hB);have HG:=hd_ (grown_below HG.out hB);have hz:=Nat.le_trans hz hB.size;clear hn hB;have T1:=hd_ True.intro)
  | (go_at_call 151;(fail_if_success have z:=T2);have z:=T1;clear z;refine (lboth_any _ _ _ _ _ _ _ HV_S.out.1 HV_y.out.1 (by (repeat (first|rw [bothN_len]|rw [wordN_len]|rw [opN_len]|rw [deepN_len]|rw [groupN_len]));omega)).mono ?_;rintro e w6 ⟨A_F,c_F,rfl,hn,hB⟩;have HV_F:=hd_ (hn.less hz);have HM:=hd_ (HM.out.past hB);have HV_x:=hd_ (HV_x.out.past hB);have HV_O:=hd_ (HV_O.out.past hB);have HG:=hd_ (grown_below HG.out hB);have hz:=Nat.le_trans hz hB.size;clear hn hB;have T2:=hd_ True.intro)
  | (go_at_call 151;(fail_if_success have z:=T3);have z:=T2;clear z;refine (lboth_any _ _ _ _ _ _ _ HV_O.out.1 HV_F.out.1 (by (repeat (first|rw [bothN_len]|rw [wordN_len]|rw [opN_len]|rw [deepN_len]|rw [groupN_len]));omega)).mono ?_;rintro e w7 ⟨A_G,c_G,rfl,hn,hB⟩;have HV_G:=hd_ (hn.less hz);have HM:=hd_ (HM.out.past hB);have HV_x:=hd_ (HV_x.out.past hB);have HG:=hd_ (grown_below HG.out hB);have hz:=Nat.le_trans hz hB.size;clear hn hB;have T3:=hd_ True.intro)
  | (go_at_call 150;(fail_if_success have z:=T4);have z:=T3;clear z;refine (ldeep_any _ _ _ _ HV_G.out.1 (by (repeat (first|rw [bothN_len]|rw [wordN_len]|rw [opN_len]|rw [deepN_len]|rw [groupN_len]));omega)).mono ?_;rintro e w8 ⟨A_H,c_H,rfl,hn,hB⟩;have HV_H:=hd_ (hn.less hz);have HM:=hd_ (HM.out.past hB);have HV_x:=hd_ (HV_x.out.past hB);have HG:=hd_ (grown_below HG.out hB);have hz:=Nat.le_trans hz hB.size;clear hn hB;have T4:=hd_ True.intro)
  | (go_at_call 151;(fail_if_success have z:=T5);have z:=T4;clear z;refine (lboth_any _ _ _ _ _ _ _ HV_x.out.1 HV_H.out.1 (by (repeat (first|rw [bothN_len]|rw [wordN_len]|rw [opN_len]|rw [deepN_len]|rw [groupN_len]));omega)).mono ?_;rintro e w9 ⟨A_J,c_J,rfl,hn,hB⟩;have HV_J:=hd_ (hn.less hz);have HM:=hd_ (HM.out.past hB);have HG:=hd_ (grown_below HG.out hB);have hz:=Nat.le_trans hz hB.size;clear hn hB;have T5:=hd_ True.intro)
  | (go_at_call 153;(fail_if_success have z:=T6);have z:=T5;clear z;refine (lgroup_any _ _ _ _ HV_J.out.1 (by (repeat (first|rw [bothN_len]|rw [wordN_len]|rw [opN_len]|rw [deepN_len]|rw [groupN_len]));omega)).mono ?_;rintro e w10 ⟨A_R,c_R,rfl,hn,hB⟩;have HV_R:=hd_ (hn.less hz);have HM:=hd_ (HM.out.past hB);have HG:=hd_ (grown_below HG.out hB);have hz:=Nat.le_trans hz hB.size;clear hn hB;have T6:=hd_ True.intro))
 go_ret
 exact ⟨A_R,c_R,rfl,HV_R.out,HM.out,HG.out⟩
structure MkN (g h:Nat) (A:Option Addr) (c:Nat) (l:List Nd) (i:Nat) (op:Int) (t:ByteArray) (n:Int) (w0 w:World):Prop where
 st:MkSt g A c l i w
 nd:w.heap[h]?=some (.cells #[.int .i64 op,.string t,.int .i64 n] 61 (0,0))
 gr:w0.grownBy w (some g)
 lt:g<h
 sz:w0.heap.size<=w.heap.size
theorem MkN.cells {g h:Nat} {A:Option Addr} {c i:Nat} {l:List Nd} {op n:Int} {t:ByteArray} {w0 w:World} (x:MkN g h A c l i op t n w0 w) :
  w.cell? ⟨h,0,none⟩=some (.int .i64 op)/\w.cell? ⟨h,1,none⟩=some (.string t)/\w.cell? ⟨h,2,none⟩=some (.int .i64 n):=by
 refine ⟨?_, ?_, ?_⟩ <;> rw [Lib.cell_of_heap x.nd] <;> rfl
theorem rq12 {P:Prop} (h:P:=by
 have hsz:(w.setCell ⟨g,1,none⟩ (.int .i64 ((i:Int)+1))).heap.size=w.heap.size:=by simp [World.setCell]
 exact ⟨((HS.out.set (i+1) (by omega)).past ((Below.refl _ _).alloc (Nat.le_refl _) _)).drew,heap_new (by rw [hsz,hh]),grown_below (grown_setM w g 1 _) (((Below.refl _ _).alloc (Nat.le_refl _) _).drew),by omega,by
  show w.heap.size<=((w.setCell ⟨g,1,none⟩ (.int .i64 ((i:Int)+1))).alloc _).heap.size
  simp [World.setCell]⟩):P:=h
theorem lmake_1 {g c:Nat} {A:Option Addr} {l:List Nd} {i:Nat} {t:ByteArray} {n:Int} {w:World} (hs:MkSt g A c l i w) (hi:i<l.length) (hnd:l[i]=Nd.mk 1 t n) (h40:l.length<=40) (n0:0<=n) (n1:n<=999999) :
  Calls Tryz.prog 87 #[.pointer (some ⟨g,0,none⟩)] w (MkTo g A c l (wordN ⟨(Lib.itoa n).toArray⟩) (i+1) w):=by
 have k1:IntKind.i64.wrap ((i:Int)+1)=(i:Int)+1:=IntWalk.i64_in _ (by omega)
 have hsz:(⟨(Lib.itoa n).toArray⟩:ByteArray).size<=maxLen:=by
  have:=(itoa_len6 n0 n1).2
  simp only [ByteArray.size,maxLen,List.size_toArray];omega
 have HSZ:=hd_ hsz
 have HIT:=hd_ (fun w' hp=>litoa_any n0 n1 w' hp)
 generalize (⟨(Lib.itoa n).toArray⟩:ByteArray)=T at *
 clear hsz
 obtain ⟨b,off,op,t',n',rfl,hb,hnd',hts,d1,d2,d3⟩:=hs.nds.node (Below.refl _ _) hi
 rw [hnd] at hnd'
 cases hnd'
 have hgl:=hs.lt
 obtain ⟨c0,c1,f1⟩:=hs.cells
 have HS:=hd_ hs
 have hbw:b<w.heap.size:=by omega
 clear hs hnd
 go_enter Tryz.func87,Tryz.ntmps87
 go_wp2
 go_region
 go_upto_region 3 with (fail)
 obtain ⟨h,hh⟩:∃ h,h=w.heap.size:=⟨_,rfl⟩
 rw [← hh]
 refine mk_named (fun wy=>MkN g h (some ⟨b,off,none⟩) c l (i+1) 1 t n w wy) ?named ?_
 case named =>
  exact rq12
 clear hh c0 c1 f1 d1 d2 d3 HS
 rintro wy hy
 obtain ⟨y0,y1,y2⟩:=hy.cells
 have HM:=hd_ hy.st;have HG:=hd_ hy.gr;have hz:=hy.sz;have hlt:=mkheap_lt hy.nd;have hgh:=hy.lt
 clear hy k1
 go_wp2_with (first
  | (go_at_call 71;refine (HIT.out _ HM.out.pow).mono ?_;rintro e w3 ⟨rfl,hB⟩;have HM:=hd_ (HM.out.past hB);have HG:=hd_ (grown_below HG.out hB);have hz:=Nat.le_trans hz hB.size;clear hB)
  | (go_at_call 147;refine (lword_any T HSZ.out _).mono ?_;rintro e w4 ⟨A_R,c_R,rfl,hn,hB⟩;have HV_R:=hd_ (hn.less hz);have HM:=hd_ (HM.out.past hB);have HG:=hd_ (grown_below HG.out hB);clear hn hB))
 go_ret
 exact ⟨A_R,c_R,rfl,HV_R.out,HM.out,HG.out⟩
theorem lmake_2 {g c:Nat} {A:Option Addr} {l:List Nd} {i:Nat} {t:ByteArray} {n:Int} {w:World} (hs:MkSt g A c l i w) (hi:i<l.length) (hnd:l[i]=Nd.mk 2 t n) (h40:l.length<=40)  :
  Calls Tryz.prog 87 #[.pointer (some ⟨g,0,none⟩)] w (MkTo g A c l (wordN t) (i+1) w):=by
 have k1:IntKind.i64.wrap ((i:Int)+1)=(i:Int)+1:=IntWalk.i64_in _ (by omega)
 obtain ⟨b,off,op,t',n',rfl,hb,hnd',hts,d1,d2,d3⟩:=hs.nds.node (Below.refl _ _) hi
 rw [hnd] at hnd'
 cases hnd'
 have hgl:=hs.lt
 obtain ⟨c0,c1,f1⟩:=hs.cells
 have HS:=hd_ hs
 have hbw:b<w.heap.size:=by omega
 clear hs hnd
 go_enter Tryz.func87,Tryz.ntmps87
 go_wp2
 go_region
 go_upto_region 3 with (fail)
 obtain ⟨h,hh⟩:∃ h,h=w.heap.size:=⟨_,rfl⟩
 rw [← hh]
 refine mk_named (fun wy=>MkN g h (some ⟨b,off,none⟩) c l (i+1) 2 t n w wy) ?named ?_
 case named =>
  exact rq12
 clear hh c0 c1 f1 d1 d2 d3 HS
 rintro wy hy
 obtain ⟨y0,y1,y2⟩:=hy.cells
 have HM:=hd_ hy.st;have HG:=hd_ hy.gr;have hz:=hy.sz;have hlt:=mkheap_lt hy.nd;have hgh:=hy.lt
 clear hy k1
 go_wp2_with (go_at_call 147;refine (lword_any t hts _).mono ?_;rintro e w4 ⟨A_R,c_R,rfl,hn,hB⟩;have HV_R:=hd_ (hn.less hz);have HM:=hd_ (HM.out.past hB);have HG:=hd_ (grown_below HG.out hB);clear hn hB)
 go_ret
 exact ⟨A_R,c_R,rfl,HV_R.out,HM.out,HG.out⟩
theorem rq16 {P:Prop} (h:P:=by
 clear hh c0 c1 f1 d1 d2 d3 HS
 rintro wy hy
 obtain ⟨y0,y1,y2⟩:=hy.cells
 have HM:=hd_ hy.st;have HG:=hd_ hy.gr;have hz:=hy.sz;have hlt:=mkheap_lt hy.nd;have hgh:=hy.lt
 clear hy k1
 go_wp2_with (go_at_call 148;refine (HL.out _ HM.out).mono ?_;rintro e w3 ⟨A_R,c_R,rfl,hn,hm3,hG⟩;have HV_R:=hd_ (hn.less hz);have HM:=hd_ hm3;have HG:=hd_ (grown_trans HG.out hG);clear hn hm3 hG)
 go_ret
 exact ⟨A_R,c_R,rfl,HV_R.out,HM.out,HG.out⟩):P:=h
theorem lmake_3 {g c:Nat} {A:Option Addr} {l:List Nd} {i:Nat} {t:ByteArray} {n:Int} {w:World} (hs:MkSt g A c l i w) (hi:i<l.length) (hnd:l[i]=Nd.mk 3 t n) (h40:l.length<=40) (ht8:t.size<=8) {R:List Nd} {z:Nat} (HL:Hid (∀ w',MkSt g A c l (i+1) w'->Calls Tryz.prog 148 #[.pointer (some ⟨g,0,none⟩),.agg #[.int .i64 3,.string t,.int .i64 n],.string (t++⟨#[40]⟩),.string ⟨#[41]⟩] w' (MkTo g A c l R z w'))) :
  Calls Tryz.prog 87 #[.pointer (some ⟨g,0,none⟩)] w (MkTo g A c l R z w):=by
 have k1:IntKind.i64.wrap ((i:Int)+1)=(i:Int)+1:=IntWalk.i64_in _ (by omega)
 obtain ⟨b,off,op,t',n',rfl,hb,hnd',hts,d1,d2,d3⟩:=hs.nds.node (Below.refl _ _) hi
 rw [hnd] at hnd'
 cases hnd'
 have hgl:=hs.lt
 obtain ⟨c0,c1,f1⟩:=hs.cells
 have HS:=hd_ hs
 have hbw:b<w.heap.size:=by omega
 clear hs hnd
 go_enter Tryz.func87,Tryz.ntmps87
 go_wp2
 go_region
 go_upto_region 3 with (fail)
 obtain ⟨h,hh⟩:∃ h,h=w.heap.size:=⟨_,rfl⟩
 rw [← hh]
 refine mk_named (fun wy=>MkN g h (some ⟨b,off,none⟩) c l (i+1) 3 t n w wy) ?named ?_
 case named =>
  exact rq12
 exact rq16
theorem lmake_4 {g c:Nat} {A:Option Addr} {l:List Nd} {i:Nat} {t:ByteArray} {n:Int} {w:World} (hs:MkSt g A c l i w) (hi:i<l.length) (hnd:l[i]=Nd.mk 4 t n) (h40:l.length<=40) {R:List Nd} {z:Nat} (HL:Hid (∀ w',MkSt g A c l (i+1) w'->Calls Tryz.prog 148 #[.pointer (some ⟨g,0,none⟩),.agg #[.int .i64 4,.string t,.int .i64 n],.string ⟨#[91]⟩,.string ⟨#[93]⟩] w' (MkTo g A c l R z w'))) :
  Calls Tryz.prog 87 #[.pointer (some ⟨g,0,none⟩)] w (MkTo g A c l R z w):=by
 have k1:IntKind.i64.wrap ((i:Int)+1)=(i:Int)+1:=IntWalk.i64_in _ (by omega)
 obtain ⟨b,off,op,t',n',rfl,hb,hnd',hts,d1,d2,d3⟩:=hs.nds.node (Below.refl _ _) hi
 rw [hnd] at hnd'
 cases hnd'
 have hgl:=hs.lt
 obtain ⟨c0,c1,f1⟩:=hs.cells
 have HS:=hd_ hs
 have hbw:b<w.heap.size:=by omega
 clear hs hnd
 go_enter Tryz.func87,Tryz.ntmps87
 go_wp2
 go_region
 go_upto_region 3 with (fail)
 obtain ⟨h,hh⟩:∃ h,h=w.heap.size:=⟨_,rfl⟩
 rw [← hh]
 refine mk_named (fun wy=>MkN g h (some ⟨b,off,none⟩) c l (i+1) 4 t n w wy) ?named ?_
 case named =>
  exact rq12
 exact rq16
theorem rq17 {P:Prop} (h:P:=by
 clear hh c0 c1 f1 d1 d2 d3 HS
 rintro wy hy
 obtain ⟨y0,y1,y2⟩:=hy.cells
 have HM:=hd_ hy.st;have HG:=hd_ hy.gr;have hz:=hy.sz;have hlt:=mkheap_lt hy.nd;have hgh:=hy.lt
 clear hy k1
 go_wp2_with (go_at_call 149;refine (HL.out _ HM.out).mono ?_;rintro e w3 ⟨A_R,c_R,rfl,hn,hm3,hG⟩;have HV_R:=hd_ (hn.less hz);have HM:=hd_ hm3;have HG:=hd_ (grown_trans HG.out hG);clear hn hm3 hG)
 go_ret
 exact ⟨A_R,c_R,rfl,HV_R.out,HM.out,HG.out⟩):P:=h
theorem lmake_5 {g c:Nat} {A:Option Addr} {l:List Nd} {i:Nat} {t:ByteArray} {n:Int} {w:World} (hs:MkSt g A c l i w) (hi:i<l.length) (hnd:l[i]=Nd.mk 5 t n) (h40:l.length<=40) {R:List Nd} {z:Nat} (HL:Hid (∀ w',MkSt g A c l (i+1) w'->Calls Tryz.prog 149 #[.pointer (some ⟨g,0,none⟩),.agg #[.int .i64 5,.string t,.int .i64 n],.string ⟨#[43,32]⟩] w' (MkTo g A c l R z w'))) :
  Calls Tryz.prog 87 #[.pointer (some ⟨g,0,none⟩)] w (MkTo g A c l R z w):=by
 have k1:IntKind.i64.wrap ((i:Int)+1)=(i:Int)+1:=IntWalk.i64_in _ (by omega)
 obtain ⟨b,off,op,t',n',rfl,hb,hnd',hts,d1,d2,d3⟩:=hs.nds.node (Below.refl _ _) hi
 rw [hnd] at hnd'
 cases hnd'
 have hgl:=hs.lt
 obtain ⟨c0,c1,f1⟩:=hs.cells
 have HS:=hd_ hs
 have hbw:b<w.heap.size:=by omega
 clear hs hnd
 go_enter Tryz.func87,Tryz.ntmps87
 go_wp2
 go_region
 go_upto_region 3 with (fail)
 obtain ⟨h,hh⟩:∃ h,h=w.heap.size:=⟨_,rfl⟩
 rw [← hh]
 refine mk_named (fun wy=>MkN g h (some ⟨b,off,none⟩) c l (i+1) 5 t n w wy) ?named ?_
 case named =>
  exact rq12
 exact rq17
theorem lmake_6 {g c:Nat} {A:Option Addr} {l:List Nd} {i:Nat} {t:ByteArray} {n:Int} {w:World} (hs:MkSt g A c l i w) (hi:i<l.length) (hnd:l[i]=Nd.mk 6 t n) (h40:l.length<=40) {R:List Nd} {z:Nat} (HL:Hid (∀ w',MkSt g A c l (i+1) w'->Calls Tryz.prog 149 #[.pointer (some ⟨g,0,none⟩),.agg #[.int .i64 6,.string t,.int .i64 n],.string ⟨#[42,32]⟩] w' (MkTo g A c l R z w'))) :
  Calls Tryz.prog 87 #[.pointer (some ⟨g,0,none⟩)] w (MkTo g A c l R z w):=by
 have k1:IntKind.i64.wrap ((i:Int)+1)=(i:Int)+1:=IntWalk.i64_in _ (by omega)
 obtain ⟨b,off,op,t',n',rfl,hb,hnd',hts,d1,d2,d3⟩:=hs.nds.node (Below.refl _ _) hi
 rw [hnd] at hnd'
 cases hnd'
 have hgl:=hs.lt
 obtain ⟨c0,c1,f1⟩:=hs.cells
 have HS:=hd_ hs
 have hbw:b<w.heap.size:=by omega
 clear hs hnd
 go_enter Tryz.func87,Tryz.ntmps87
 go_wp2
 go_region
 go_upto_region 3 with (fail)
 obtain ⟨h,hh⟩:∃ h,h=w.heap.size:=⟨_,rfl⟩
 rw [← hh]
 refine mk_named (fun wy=>MkN g h (some ⟨b,off,none⟩) c l (i+1) 6 t n w wy) ?named ?_
 case named =>
  exact rq12
 exact rq17
theorem lmake_7 {g c:Nat} {A:Option Addr} {l:List Nd} {i:Nat} {t:ByteArray} {n:Int} {w:World} (hs:MkSt g A c l i w) (hi:i<l.length) (hnd:l[i]=Nd.mk 7 t n) (h40:l.length<=40) (ht8:t.size<=8) {d:List Nd} {z:Nat} (hdl:d.length<=900) (HD:Hid (∀ w',MkSt g A c l (i+1) w'->Calls Tryz.prog 87 #[.pointer (some ⟨g,0,none⟩)] w' (MkTo g A c l d z w'))) :
  Calls Tryz.prog 87 #[.pointer (some ⟨g,0,none⟩)] w (MkTo g A c l (groupN (bothN (wordN (⟨#[108,101,116,32]⟩++t++⟨#[32,61]⟩)) (deepN (bothN (opN 2) (bothN d (wordN ⟨#[59]⟩)))))) z w):=by
 have k1:IntKind.i64.wrap ((i:Int)+1)=(i:Int)+1:=IntWalk.i64_in _ (by omega)
 have hsz:(⟨#[108,101,116,32]⟩++t++⟨#[32,61]⟩:ByteArray).size<=maxLen:=by
  simp only [ByteArray.size_append,maxLen]
  show 4+t.size+2<=_
  omega
 have HSZ:=hd_ hsz
 clear hsz
 have hcat0:∀ w',(Op.stringOp .add ⟨#[108,101,116,32]⟩ t).run Tryz.prog w'=.ok (.string (⟨#[108,101,116,32]⟩++t)) w':=fun w'=>run_string_add_sum w' _ t (by show 4+t.size<=_;omega)
 have hcat1:∀ w',(Op.stringOp .add (⟨#[108,101,116,32]⟩++t) ⟨#[32,61]⟩).run Tryz.prog w'=.ok (.string (⟨#[108,101,116,32]⟩++t++⟨#[32,61]⟩)) w':=fun w'=>run_string_add_sum w' _ _ (by rw [ByteArray.size_append];show 4+t.size+2<=_;omega)
 obtain ⟨b,off,op,t',n',rfl,hb,hnd',hts,d1,d2,d3⟩:=hs.nds.node (Below.refl _ _) hi
 rw [hnd] at hnd'
 cases hnd'
 have hgl:=hs.lt
 obtain ⟨c0,c1,f1⟩:=hs.cells
 have HS:=hd_ hs
 have hbw:b<w.heap.size:=by omega
 clear hs hnd
 go_enter Tryz.func87,Tryz.ntmps87
 go_wp2
 go_region
 go_upto_region 3 with (fail)
 obtain ⟨h,hh⟩:∃ h,h=w.heap.size:=⟨_,rfl⟩
 rw [← hh]
 refine mk_named (fun wy=>MkN g h (some ⟨b,off,none⟩) c l (i+1) 7 t n w wy) ?named ?_
 case named =>
  exact rq12
 clear hh c0 c1 f1 d1 d2 d3 HS
 rintro wy hy
 obtain ⟨y0,y1,y2⟩:=hy.cells
 have HM:=hd_ hy.st;have HG:=hd_ hy.gr;have hz:=hy.sz;have hlt:=mkheap_lt hy.nd;have hgh:=hy.lt
 clear hy k1
 go_wp2_with (first
  | (go_at_call 152;(fail_if_success have z:=T0);refine (lop_any 2 _).mono ?_;rintro e w3 ⟨A_O,c_O,rfl,hn,hB⟩;have HV_O:=hd_ (hn.less hz);have HM:=hd_ (HM.out.past hB);have y0:=(hB.cell (p:=⟨h,0,none⟩) hlt).trans y0;have y1:=(hB.cell (p:=⟨h,1,none⟩) hlt).trans y1;have y2:=(hB.cell (p:=⟨h,2,none⟩) hlt).trans y2;have HG:=hd_ (grown_below HG.out hB);have hz:=Nat.le_trans hz hB.size;have hlt:=Nat.lt_of_lt_of_le hlt hB.size;clear hn hB;have T0:=hd_ True.intro)
  | (go_at_call 87;(fail_if_success have z:=T1);have z:=T0;clear z;refine (HD.out _ HM.out).mono ?_;rintro e w4 ⟨A_d,c_d,rfl,hn,hm,hG⟩;have HV_d:=hd_ (hn.less hz);have HM:=hd_ hm;have HV_O:=hd_ (HV_O.out.grow hG (fun k e=>by injection e with e;omega));have y0:=(hG.cell y0 (by simp;omega));have y1:=(hG.cell y1 (by simp;omega));have y2:=(hG.cell y2 (by simp;omega));have HG:=hd_ (grown_trans HG.out hG);have hz:=Nat.le_trans hz hG.size;have hlt:=Nat.lt_of_lt_of_le hlt hG.size;clear hn hm hG;have T1:=hd_ True.intro)
  | (go_at_call 147;(fail_if_success have z:=T2);have z:=T1;clear z;refine (lword_any ⟨#[59]⟩ (by decide) _).mono ?_;rintro e w5 ⟨A_S,c_S,rfl,hn,hB⟩;have HV_S:=hd_ (hn.less hz);have HM:=hd_ (HM.out.past hB);have HV_O:=hd_ (HV_O.out.past hB);have HV_d:=hd_ (HV_d.out.past hB);have y0:=(hB.cell (p:=⟨h,0,none⟩) hlt).trans y0;have y1:=(hB.cell (p:=⟨h,1,none⟩) hlt).trans y1;have y2:=(hB.cell (p:=⟨h,2,none⟩) hlt).trans y2;have HG:=hd_ (grown_below HG.out hB);have hz:=Nat.le_trans hz hB.size;have hlt:=Nat.lt_of_lt_of_le hlt hB.size;clear hn hB;have T2:=hd_ True.intro)
  | (go_at_call 151;(fail_if_success have z:=T3);have z:=T2;clear z;refine (lboth_any _ _ _ _ _ _ _ HV_d.out.1 HV_S.out.1 (by (repeat (first|rw [bothN_len]|rw [wordN_len]|rw [opN_len]|rw [deepN_len]|rw [groupN_len]));omega)).mono ?_;rintro e w6 ⟨A_F,c_F,rfl,hn,hB⟩;have HV_F:=hd_ (hn.less hz);have HM:=hd_ (HM.out.past hB);have HV_O:=hd_ (HV_O.out.past hB);have y0:=(hB.cell (p:=⟨h,0,none⟩) hlt).trans y0;have y1:=(hB.cell (p:=⟨h,1,none⟩) hlt).trans y1;have y2:=(hB.cell (p:=⟨h,2,none⟩) hlt).trans y2;have HG:=hd_ (grown_below HG.out hB);have hz:=Nat.le_trans hz hB.size;have hlt:=Nat.lt_of_lt_of_le hlt hB.size;clear hn hB;have T3:=hd_ True.intro)
  | (go_at_call 151;(fail_if_success have z:=T4);have z:=T3;clear z;refine (lboth_any _ _ _ _ _ _ _ HV_O.out.1 HV_F.out.1 (by (repeat (first|rw [bothN_len]|rw [wordN_len]|rw [opN_len]|rw [deepN_len]|rw [groupN_len]));omega)).mono ?_;rintro e w7 ⟨A_G,c_G,rfl,hn,hB⟩;have HV_G:=hd_ (hn.less hz);have HM:=hd_ (HM.out.past hB);have y0:=(hB.cell (p:=⟨h,0,none⟩) hlt).trans y0;have y1:=(hB.cell (p:=⟨h,1,none⟩) hlt).trans y1;have y2:=(hB.cell (p:=⟨h,2,none⟩) hlt).trans y2;have HG:=hd_ (grown_below HG.out hB);have hz:=Nat.le_trans hz hB.size;have hlt:=Nat.lt_of_lt_of_le hlt hB.size;clear hn hB;have T4:=hd_ True.intro)
  | (go_at_call 150;(fail_if_success have z:=T5);have z:=T4;clear z;refine (ldeep_any _ _ _ _ HV_G.out.1 (by (repeat (first|rw [bothN_len]|rw [wordN_len]|rw [opN_len]|rw [deepN_len]|rw [groupN_len]));omega)).mono ?_;rintro e w8 ⟨A_H,c_H,rfl,hn,hB⟩;have HV_H:=hd_ (hn.less hz);have HM:=hd_ (HM.out.past hB);have y0:=(hB.cell (p:=⟨h,0,none⟩) hlt).trans y0;have y1:=(hB.cell (p:=⟨h,1,none⟩) hlt).trans y1;have y2:=(hB.cell (p:=⟨h,2,none⟩) hlt).trans y2;have HG:=hd_ (grown_below HG.out hB);have hz:=Nat.le_trans hz hB.size;have hlt:=Nat.lt_of_lt_of_le hlt hB.size;clear hn hB;have T5:=hd_ True.intro)
  | (go_at_call 147;(fail_if_success have z:=T6);have z:=T5;clear z;refine (lword_any _ HSZ.out _).mono ?_;rintro e w9 ⟨A_W,c_W,rfl,hn,hB⟩;have HV_W:=hd_ (hn.less hz);have HM:=hd_ (HM.out.past hB);have HV_H:=hd_ (HV_H.out.past hB);have y0:=(hB.cell (p:=⟨h,0,none⟩) hlt).trans y0;have y1:=(hB.cell (p:=⟨h,1,none⟩) hlt).trans y1;have y2:=(hB.cell (p:=⟨h,2,none⟩) hlt).trans y2;have HG:=hd_ (grown_below HG.out hB);have hz:=Nat.le_trans hz hB.size;have hlt:=Nat.lt_of_lt_of_le hlt hB.size;clear hn hB;have T6:=hd_ True.intro)
  | (go_at_call 151;(fail_if_success have z:=T7);have z:=T6;clear z;refine (lboth_any _ _ _ _ _ _ _ HV_W.out.1 HV_H.out.1 (by (repeat (first|rw [bothN_len]|rw [wordN_len]|rw [opN_len]|rw [deepN_len]|rw [groupN_len]));omega)).mono ?_;rintro e w10 ⟨A_J,c_J,rfl,hn,hB⟩;have HV_J:=hd_ (hn.less hz);have HM:=hd_ (HM.out.past hB);have y0:=(hB.cell (p:=⟨h,0,none⟩) hlt).trans y0;have y1:=(hB.cell (p:=⟨h,1,none⟩) hlt).trans y1;have y2:=(hB.cell (p:=⟨h,2,none⟩) hlt).trans y2;have HG:=hd_ (grown_below HG.out hB);have hz:=Nat.le_trans hz hB.size;have hlt:=Nat.lt_of_lt_of_le hlt hB.size;clear hn hB;have T7:=hd_ True.intro)
  | (go_at_call 153;(fail_if_success have z:=T8);have z:=T7;clear z;refine (lgroup_any _ _ _ _ HV_J.out.1 (by (repeat (first|rw [bothN_len]|rw [wordN_len]|rw [opN_len]|rw [deepN_len]|rw [groupN_len]));omega)).mono ?_;rintro e w11 ⟨A_R,c_R,rfl,hn,hB⟩;have HV_R:=hd_ (hn.less hz);have HM:=hd_ (HM.out.past hB);have y0:=(hB.cell (p:=⟨h,0,none⟩) hlt).trans y0;have y1:=(hB.cell (p:=⟨h,1,none⟩) hlt).trans y1;have y2:=(hB.cell (p:=⟨h,2,none⟩) hlt).trans y2;have HG:=hd_ (grown_below HG.out hB);have hz:=Nat.le_trans hz hB.size;have hlt:=Nat.lt_of_lt_of_le hlt hB.size;clear hn hB;have T8:=hd_ True.intro))
 go_ret
 exact ⟨A_R,c_R,rfl,HV_R.out,HM.out,HG.out⟩
theorem lmake_8 {g c:Nat} {A:Option Addr} {l:List Nd} {i:Nat} {t:ByteArray} {n:Int} {w:World} (hs:MkSt g A c l i w) (hi:i<l.length) (hnd:l[i]=Nd.mk 8 t n) (h40:l.length<=40) {d:List Nd} {z:Nat} (hdl:d.length<=900) (HD:Hid (∀ w',MkSt g A c l (i+1) w'->Calls Tryz.prog 87 #[.pointer (some ⟨g,0,none⟩)] w' (MkTo g A c l d z w'))) :
  Calls Tryz.prog 87 #[.pointer (some ⟨g,0,none⟩)] w (MkTo g A c l (bothN d (wordN ⟨#[59]⟩)) z w):=by
 have k1:IntKind.i64.wrap ((i:Int)+1)=(i:Int)+1:=IntWalk.i64_in _ (by omega)
 obtain ⟨b,off,op,t',n',rfl,hb,hnd',hts,d1,d2,d3⟩:=hs.nds.node (Below.refl _ _) hi
 rw [hnd] at hnd'
 cases hnd'
 have hgl:=hs.lt
 obtain ⟨c0,c1,f1⟩:=hs.cells
 have HS:=hd_ hs
 have hbw:b<w.heap.size:=by omega
 clear hs hnd
 go_enter Tryz.func87,Tryz.ntmps87
 go_wp2
 go_region
 go_upto_region 3 with (fail)
 obtain ⟨h,hh⟩:∃ h,h=w.heap.size:=⟨_,rfl⟩
 rw [← hh]
 refine mk_named (fun wy=>MkN g h (some ⟨b,off,none⟩) c l (i+1) 8 t n w wy) ?named ?_
 case named =>
  exact rq12
 clear hh c0 c1 f1 d1 d2 d3 HS
 rintro wy hy
 obtain ⟨y0,y1,y2⟩:=hy.cells
 have HM:=hd_ hy.st;have HG:=hd_ hy.gr;have hz:=hy.sz;have hlt:=mkheap_lt hy.nd;have hgh:=hy.lt
 clear hy k1
 go_wp2_with (first
  | (go_at_call 87;(fail_if_success have z:=T0);refine (HD.out _ HM.out).mono ?_;rintro e w3 ⟨A_d,c_d,rfl,hn,hm,hG⟩;have HV_d:=hd_ (hn.less hz);have HM:=hd_ hm;have HG:=hd_ (grown_trans HG.out hG);have hz:=Nat.le_trans hz hG.size;clear hn hm hG;have T0:=hd_ True.intro)
  | (go_at_call 147;(fail_if_success have z:=T1);have z:=T0;clear z;refine (lword_any ⟨#[59]⟩ (by decide) _).mono ?_;rintro e w4 ⟨A_S,c_S,rfl,hn,hB⟩;have HV_S:=hd_ (hn.less hz);have HM:=hd_ (HM.out.past hB);have HV_d:=hd_ (HV_d.out.past hB);have HG:=hd_ (grown_below HG.out hB);have hz:=Nat.le_trans hz hB.size;clear hn hB;have T1:=hd_ True.intro)
  | (go_at_call 151;(fail_if_success have z:=T2);have z:=T1;clear z;refine (lboth_any _ _ _ _ _ _ _ HV_d.out.1 HV_S.out.1 (by (repeat (first|rw [bothN_len]|rw [wordN_len]|rw [opN_len]|rw [deepN_len]|rw [groupN_len]));omega)).mono ?_;rintro e w5 ⟨A_R,c_R,rfl,hn,hB⟩;have HV_R:=hd_ (hn.less hz);have HM:=hd_ (HM.out.past hB);have HG:=hd_ (grown_below HG.out hB);have hz:=Nat.le_trans hz hB.size;clear hn hB;have T2:=hd_ True.intro))
 go_ret
 exact ⟨A_R,c_R,rfl,HV_R.out,HM.out,HG.out⟩
theorem lmake_any {g c:Nat} {A:Option Addr} {l:List Nd} (hT:Tr l):∀ f,MakeSaid g A c l f:=by
 intro f
 induction f with
 | zero=>intro i w hs hi hf;omega
 | succ f ih =>
 intro i w hs hi hf h9
 have hk:=hT.kidsP hi
 have hone:=hT.one _ (List.getElem_mem hi)
 have hmm:(manyL l).getD i 0=(manyF l[i].op l[i].n).toNat:=manyL_at hi rfl
 rw [hmm] at hk
 clear hmm
 have hoe:opAt l i=l[i].op:=by rw [opAt,getD_at hi]
 rw [hoe] at h9
 clear hoe
 obtain ⟨op,t,n,hnd⟩:∃ op t n,l[i]=Nd.mk op t n:=⟨_,_,_,rfl⟩
 rw [hnd] at hone hk h9
 simp only at hone hk h9
 have hop:1<=op/\op<=8:=by
  by_cases hc:op<1∨9<op
  ·rw [treeOne,if_pos (by rcases hc with h|h;exact .inl h;exact .inr (.inl h))] at hone;cases hone
  ·omega
 have hnm:namedF op=true->t.size<=8:=fun h=>(name_facts (tone_word hone h h9)).2.1
 have hn6:=manyF_bd hone
 have hm40:=hT.len
 have hcs:op=1∨op=2∨op=3∨op=4∨op=5∨op=6∨op=7∨op=8:=by omega
 rcases hcs with rfl|rfl|rfl|rfl|rfl|rfl|rfl|rfl
 ·obtain ⟨n0,n1⟩:=tone_num hone
  rw [show (manyF 1 n).toNat=0 from rfl,KidsP] at hk
  rw [← hk]
  rw [show docT l (f+1) i=wordN ⟨(Lib.itoa n).toArray⟩ by
   rw [docT,getD_at hi,hnd]
   simp only [if_true]]
  exact lmake_1 hs hi hnd hm40 n0 n1
 ·rw [show (manyF 2 n).toNat=0 from rfl,KidsP] at hk
  rw [← hk]
  rw [show docT l (f+1) i=wordN t by
   rw [docT,getD_at hi,hnd]
   simp only [show ¬ (2:Int)=1 by decide,if_false,if_true]]
  exact lmake_2 hs hi hnd hm40
 ·rw [show manyF 3 n=n from rfl] at hk hn6
  obtain ⟨m,rfl⟩:∃ m:Nat,n=m:=⟨n.toNat,by omega⟩
  rw [Int.toNat_natCast] at hk
  rw [show docT l (f+1) i=listD (t++⟨#[40]⟩) ⟨#[41]⟩ m (kidsD (docT l f) (tEnd l) (i+1) m) by
   rw [docT,getD_at hi,hnd]
   simp only [show ¬ (3:Int)=1 by decide,show ¬ (3:Int)=2 by decide,if_false,if_true,Int.toNat_natCast]]
  exact lmake_3 hs hi hnd hm40 (hnm rfl) (hd_ (fun w' hs'=>llisted_any hT ih 3 m (i+1) (tEnd l i) m t _ _ w' (by decide) rfl (by omega) hk (by omega) (by omega) (by omega) hs' (by rw [ByteArray.size_append];have:=hnm rfl;show t.size+1<=100;omega) (by decide)))
 ·rw [show manyF 4 n=n from rfl] at hk hn6
  obtain ⟨m,rfl⟩:∃ m:Nat,n=m:=⟨n.toNat,by omega⟩
  rw [Int.toNat_natCast] at hk
  rw [show docT l (f+1) i=listD ⟨#[91]⟩ ⟨#[93]⟩ m (kidsD (docT l f) (tEnd l) (i+1) m) by
   rw [docT,getD_at hi,hnd]
   simp only [show ¬ (4:Int)=1 by decide,show ¬ (4:Int)=2 by decide,show ¬ (4:Int)=3 by decide,if_false,if_true,Int.toNat_natCast]]
  exact lmake_4 hs hi hnd hm40 (hd_ (fun w' hs'=>llisted_any hT ih 4 m (i+1) (tEnd l i) m t _ _ w' (by decide) rfl (by omega) hk (by omega) (by omega) (by omega) hs' (by decide) (by decide)))
 ·rw [show (manyF 5 n).toNat=2 from rfl] at hk
  rw [show docT l (f+1) i=twoD ⟨#[43,32]⟩ (kidD 5 (opAt l (i+1)) false (docT l f (i+1))) (kidD 5 (opAt l (tEnd l (i+1))) true (docT l f (tEnd l (i+1)))) by
   rw [docT,getD_at hi,hnd]
   simp only [show ¬ (5:Int)=1 by decide,show ¬ (5:Int)=2 by decide,show ¬ (5:Int)=3 by decide,show ¬ (5:Int)=4 by decide,if_false,if_true]]
  exact lmake_5 hs hi hnd hm40 (hd_ (fun w' hs'=>ltwo_any hT ih 5 n (i+1) (tEnd l i) t _ w' hk (by omega) (by omega) hs' (by decide)))
 ·rw [show (manyF 6 n).toNat=2 from rfl] at hk
  rw [show docT l (f+1) i=twoD ⟨#[42,32]⟩ (kidD 6 (opAt l (i+1)) false (docT l f (i+1))) (kidD 6 (opAt l (tEnd l (i+1))) true (docT l f (tEnd l (i+1)))) by
   rw [docT,getD_at hi,hnd]
   simp only [show ¬ (6:Int)=1 by decide,show ¬ (6:Int)=2 by decide,show ¬ (6:Int)=3 by decide,show ¬ (6:Int)=4 by decide,show ¬ (6:Int)=5 by decide,if_false,if_true]]
  exact lmake_6 hs hi hnd hm40 (hd_ (fun w' hs'=>ltwo_any hT ih 6 n (i+1) (tEnd l i) t _ w' hk (by omega) (by omega) hs' (by decide)))
 ·rw [show (manyF 7 n).toNat=1 from rfl] at hk
  obtain ⟨q1,q2,q3⟩:i+1<l.length/\i+1<tEnd l (i+1)/\tEnd l (i+1)=tEnd l i:=⟨hk.1,hk.2.1,hk.2.2⟩
  rw [show docT l (f+1) i=groupN (bothN (wordN (⟨#[108,101,116,32]⟩++t++⟨#[32,61]⟩)) (deepN (bothN (opN 2) (bothN (docT l f (i+1)) (wordN ⟨#[59]⟩))))) by
   rw [docT,getD_at hi,hnd]
   simp only [show ¬ (7:Int)=1 by decide,show ¬ (7:Int)=2 by decide,show ¬ (7:Int)=3 by decide,show ¬ (7:Int)=4 by decide,show ¬ (7:Int)=5 by decide,show ¬ (7:Int)=6 by decide,if_false,if_true]]
  have h99:=low_at hT q1 (by omega)
  have hI:=fun w' hs'=>ih (i+1) w' hs' q1 (by omega) h99
  rw [q3] at hI
  exact lmake_7 hs hi hnd hm40 (hnm rfl) (doc_small hT (f:=f) (by omega) q1 h99) (hd_ hI)
 ·rw [show (manyF 8 n).toNat=1 from rfl] at hk
  obtain ⟨q1,q2,q3⟩:i+1<l.length/\i+1<tEnd l (i+1)/\tEnd l (i+1)=tEnd l i:=⟨hk.1,hk.2.1,hk.2.2⟩
  rw [show docT l (f+1) i=bothN (docT l f (i+1)) (wordN ⟨#[59]⟩) by
   rw [docT,getD_at hi,hnd]
   simp only [show ¬ (8:Int)=1 by decide,show ¬ (8:Int)=2 by decide,show ¬ (8:Int)=3 by decide,show ¬ (8:Int)=4 by decide,show ¬ (8:Int)=5 by decide,show ¬ (8:Int)=6 by decide,show ¬ (8:Int)=7 by decide,if_false,if_false]]
  have h99:=low_at hT q1 (by omega)
  have hI:=fun w' hs'=>ih (i+1) w' hs' q1 (by omega) h99
  rw [q3] at hI
  exact lmake_8 hs hi hnd hm40 (doc_small hT (f:=f) (by omega) q1 h99) (hd_ hI)
theorem lcheck_ok (l:List Nd) (A:Option Addr) (c:Nat) (w:World) (hl:Nds w w.heap.size A l) (hsh:Short l) (hm:MaxL w) (h:treeF l=0) :
  Calls Tryz.prog 45 #[.slice A l.length c] w (Ret w .nilIface):=by rw [errV_zero h];exact tcheck_any l A c w hl hsh hm
theorem lcheck_bad (l:List Nd) (A:Option Addr) (c:Nat) (w:World) (hl:Nds w w.heap.size A l) (hsh:Short l) (hm:MaxL w) (h:treeF l≠0) :
  Calls Tryz.prog 45 #[.slice A l.length c] w (Ret w (.iface 24 (.int .i64 (treeF l)))):=by rw [errV_pos h];exact tcheck_any l A c w hl hsh hm
theorem Tr.pos0 {l:List Nd} (h:Tr l):0<l.length:=by
 have h1:=h.root
 rcases Nat.eq_zero_or_pos l.length with h2|h2
 ·rw [posAt_ge (by omega)] at h1;cases h1
 ·exact h2
theorem Nds.head0 {w:World} {A:Option Addr} {l:List Nd} (hN:Nds w w.heap.size A l) (h0:0<l.length) :
  ∃ b off op t n,A=some ⟨b,off,none⟩/\b<w.heap.size/\opAt l 0=op/\l[0]=Nd.mk op t n/\t.size<=maxLen/\w.cell? ⟨b,off,none⟩=some (.int .i64 op)/\w.cell? ⟨b,off+1,none⟩=some (.string t):=by
 obtain ⟨b,off,op,t,n,h1,h2,h3,h4,h5,h6,_⟩:=hN.node (Below.refl _ _) h0
 exact ⟨b,off,op,t,n,h1,h2,by rw [opAt,getD_at h0,h3],h3,h4,by simpa using h5,by simpa using h6⟩
def LdTo (d:List Nd) (w:World) (e:Ending) (w':World):Prop:=∃ A c,e=.returned (.tuple #[.slice A d.length c,.nilIface])/\NdF w.heap.size w' A d/\Below w.heap.size w w'
def docL (l:List Nd):List Nd:=docT l l.length 0
theorem below_grownM {w w1:World} {g:Nat} {o:Obj} (hg:w.heap.size=g) (h:(w.alloc o).grownBy w1 (some g)):Below w.heap.size w w1 :=
 ((Below.refl w.heap.size w).alloc (Nat.le_refl _) o).grown h (by simp) (fun k e=>by injection e with e;omega)
theorem ldoc_good (l:List Nd) (A:Option Addr) (c:Nat) (w:World) (hl:Nds w w.heap.size A l) (hsh:Short l) (hm:MaxL w) (hp:PowT w) (h:treeF l=0) (h9:opAt l 0≠9) :
  (¬ 400<(docL l).length->Calls Tryz.prog 47 #[.slice A l.length c] w (LdTo (docL l) w)) /\
  (400<(docL l).length->Calls Tryz.prog 47 #[.slice A l.length c] w (Ret w (.tuple #[.slice none 0 0,.iface 24 (.int .i64 3)]))):=by
 have HK:=hd_ (lcheck_ok l A c w hl hsh hm h)
 have hT:=Tr.of_check h
 have h0:=hT.pos0
 have HMK:=hd_ (fun (g:Nat) w' (hs:MkSt g A c l 0 w')=>lmake_any hT l.length 0 w' hs h0 (by omega) h9)
 have hds:=doc_small hT (f:=l.length) (by omega) h0 h9
 have HST:Hid (∀ w1,Below w.heap.size w w1->MkSt w1.heap.size A c l 0 (w1.alloc (.cells #[.slice A l.length c,.int .i64 (0:Nat)] 160))):=hd_ (fun w1 hB=>by
  have hp1:=hp.past hB
  refine ⟨heap_new rfl,(hl.past hB).mkunder ((Below.refl _ _).alloc (Nat.le_refl _) _) (Nat.le_refl _),hp1.past ((Below.refl _ _).alloc (Nat.le_refl _) _),hp1.lt⟩)
 obtain ⟨b,off,op,t,n,rfl,hb,ho,hnd,hts,d1,d2⟩:=hl.head0 h0
 have ho9:(op==9)=false:=by rw [← ho];simpa using h9
 have hlen:=hl.2.1
 unfold maxLen at hlen
 rw [show docT l l.length 0=docL l from rfl] at HMK hds
 generalize docL l=d at *
 generalize tEnd l 0=z at *
 clear hl hsh hm h ho hnd h9 hT hp
 constructor
 ·intro h400
  go_enter Tryz.func47,Tryz.ntmps47
  go_wp2_with (first
   | (go_at_call 45;refine HK.out.mono ?_;rintro e w1 ⟨rfl,hB1⟩;have e1:=(hB1.cell (p:=⟨b,off,none⟩) hb).trans d1;have HS:=hd_ (HST.out w1 hB1))
   | (go_at_call 87;refine (HMK.out w1.heap.size _ HS.out).mono ?_;rintro e w2 ⟨A2,c2,rfl,hn,hm2,hG⟩;have hB2:=below_grownM rfl hG;have hz:=hB1.size;have HN:=hd_ (hn.less (lo':=w.heap.size) (by simp;omega));clear hn hm2 hG))
  go_ret2
  exact ⟨A2,c2,rfl,HN.out,hB1.trans (hB2.mono hz)⟩
 ·intro h400
  go_enter Tryz.func47,Tryz.ntmps47
  go_wp2_with (first
   | (go_at_call 45;refine HK.out.mono ?_;rintro e w1 ⟨rfl,hB1⟩;have e1:=(hB1.cell (p:=⟨b,off,none⟩) hb).trans d1;have HS:=hd_ (HST.out w1 hB1))
   | (go_at_call 87;refine (HMK.out w1.heap.size _ HS.out).mono ?_;rintro e w2 ⟨A2,c2,rfl,hn,hm2,hG⟩;have hB2:=below_grownM rfl hG;have hz:=hB1.size;clear hn hm2 hG))
  go_ret2
  exact ⟨rfl,hB1.trans (hB2.mono hz)⟩
theorem swrite_any {B g c:Nat} {A:Option Addr} {l:List Nd} (hT:Tr l):∀ f,SySaid B g A c l f:=by
 intro f
 induction f with
 | zero=>intro i s w hs hi hf;omega
 | succ f ih =>
 intro i s w hs hi hf h9 hsz
 have hk:=hT.kidsP hi
 have hone:=hT.one _ (List.getElem_mem hi)
 have hmm:(manyL l).getD i 0=(manyF l[i].op l[i].n).toNat:=manyL_at hi rfl
 rw [hmm] at hk
 clear hmm
 have hoe:opAt l i=l[i].op:=by rw [opAt,getD_at hi]
 have h9i:=h9
 rw [hoe] at h9
 obtain ⟨op,t,n,hnd⟩:∃ op t n,l[i]=Nd.mk op t n:=⟨_,_,_,rfl⟩
 rw [hnd] at hone hk h9
 simp only at hone hk h9
 have hop:1<=op/\op<=8:=by
  by_cases hc:op<1∨9<op
  ·rw [treeOne,if_pos (by rcases hc with h|h;exact .inl h;exact .inr (.inl h))] at hone;cases hone
  ·omega
 have hnm:namedF op=true->t.size<=8:=fun h=>(name_facts (tone_word hone h h9)).2.1
 have hn6:=manyF_bd hone
 have hm40:=hT.len
 have hcs:op=1∨op=2∨op=3∨op=4∨op=5∨op=6∨op=7∨op=8:=by omega
 rcases hcs with rfl|rfl|rfl|rfl|rfl|rfl|rfl|rfl
 ·obtain ⟨n0,n1⟩:=tone_num hone
  rw [show (manyF 1 n).toNat=0 from rfl,KidsP] at hk
  rw [← hk,show textX l (f+1) i=⟨(Lib.itoa n).toArray⟩ by
   rw [textX,getD_at hi,hnd]
   simp only [if_true]]
  exact swrite_1 hs hi hnd hm40 hsz n0 n1
 ·rw [show (manyF 2 n).toNat=0 from rfl,KidsP] at hk
  rw [← hk,show textX l (f+1) i=t by
   rw [textX,getD_at hi,hnd]
   simp only [show ¬ (2:Int)=1 by decide,if_false,if_true]]
  exact swrite_2 hs hi hnd hm40 hsz (hnm rfl)
 ·rw [show manyF 3 n=n from rfl] at hk hn6
  obtain ⟨m,rfl⟩:∃ m:Nat,n=m:=⟨n.toNat,by omega⟩
  rw [Int.toNat_natCast] at hk
  rw [show textX l (f+1) i=t++⟨#[40]⟩++kidsX (textX l f) (tEnd l) (i+1) m++⟨#[41]⟩ by
   rw [textX,getD_at hi,hnd]
   simp only [show ¬ (3:Int)=1 by decide,show ¬ (3:Int)=2 by decide,if_false,if_true,Int.toNat_natCast]]
  exact swrite_3 hs hi hnd hm40 hsz (hnm rfl) (hd_ (fun w' hs'=>skids_any hT ih 3 m (i+1) (tEnd l i) m t _ _ s w' (by decide) rfl (by omega) hk (by omega) (by omega) (by omega) hs' (by rw [ByteArray.size_append];have:=hnm rfl;show t.size+1<=10;omega) (by decide) (by omega)))
 ·rw [show manyF 4 n=n from rfl] at hk hn6
  obtain ⟨m,rfl⟩:∃ m:Nat,n=m:=⟨n.toNat,by omega⟩
  rw [Int.toNat_natCast] at hk
  rw [show textX l (f+1) i=⟨#[91]⟩++kidsX (textX l f) (tEnd l) (i+1) m++⟨#[93]⟩ by
   rw [textX,getD_at hi,hnd]
   simp only [show ¬ (4:Int)=1 by decide,show ¬ (4:Int)=2 by decide,show ¬ (4:Int)=3 by decide,if_false,if_true,Int.toNat_natCast]]
  exact swrite_4 hs hi hnd hm40 hsz (hd_ (fun w' hs'=>skids_any hT ih 4 m (i+1) (tEnd l i) m t _ _ s w' (by decide) rfl (by omega) hk (by omega) (by omega) (by omega) hs' (by decide) (by decide) (by omega)))
 ·rw [show (manyF 5 n).toNat=2 from rfl] at hk
  rw [show textX l (f+1) i=kidX 5 (opAt l (i+1)) false (textX l f (i+1))++⟨#[32,43,32]⟩++kidX 5 (opAt l (tEnd l (i+1))) true (textX l f (tEnd l (i+1))) by
   rw [textX,getD_at hi,hnd]
   simp only [show ¬ (5:Int)=1 by decide,show ¬ (5:Int)=2 by decide,show ¬ (5:Int)=3 by decide,show ¬ (5:Int)=4 by decide,if_false,if_true]]
  exact swrite_5 hs hi hnd hm40 hsz (hd_ (fun w' hs'=>stwo_any hT ih 5 n (i+1) (tEnd l i) t _ s w' hk (by omega) (by omega) hs' (by decide) (by omega)))
 ·rw [show (manyF 6 n).toNat=2 from rfl] at hk
  rw [show textX l (f+1) i=kidX 6 (opAt l (i+1)) false (textX l f (i+1))++⟨#[32,42,32]⟩++kidX 6 (opAt l (tEnd l (i+1))) true (textX l f (tEnd l (i+1))) by
   rw [textX,getD_at hi,hnd]
   simp only [show ¬ (6:Int)=1 by decide,show ¬ (6:Int)=2 by decide,show ¬ (6:Int)=3 by decide,show ¬ (6:Int)=4 by decide,show ¬ (6:Int)=5 by decide,if_false,if_true]]
  exact swrite_6 hs hi hnd hm40 hsz (hd_ (fun w' hs'=>stwo_any hT ih 6 n (i+1) (tEnd l i) t _ s w' hk (by omega) (by omega) hs' (by decide) (by omega)))
 ·rw [show (manyF 7 n).toNat=1 from rfl] at hk
  obtain ⟨q1,q2,q3⟩:i+1<l.length/\i+1<tEnd l (i+1)/\tEnd l (i+1)=tEnd l i:=⟨hk.1,hk.2.1,hk.2.2⟩
  have h99:=low_at hT q1 (by omega)
  have hts:=text_small hT (f:=f) (by omega) q1 h99
  have hte:=(tEnd_bd q1).2
  have hI:=fun s' w' hs' hz'=>ih (i+1) s' w' hs' q1 (by omega) h99 hz'
  rw [q3] at hI
  rw [show textX l (f+1) i=letB++t++⟨#[32,61,32]⟩++textX l f (i+1)++⟨#[59]⟩ by
   rw [textX,getD_at hi,hnd]
   simp only [show ¬ (7:Int)=1 by decide,show ¬ (7:Int)=2 by decide,show ¬ (7:Int)=3 by decide,show ¬ (7:Int)=4 by decide,show ¬ (7:Int)=5 by decide,show ¬ (7:Int)=6 by decide,if_false,if_true]]
  exact swrite_7 hs hi hnd hm40 hsz (hnm rfl) (by omega) (hd_ hI)
 ·rw [show (manyF 8 n).toNat=1 from rfl] at hk
  obtain ⟨q1,q2,q3⟩:i+1<l.length/\i+1<tEnd l (i+1)/\tEnd l (i+1)=tEnd l i:=⟨hk.1,hk.2.1,hk.2.2⟩
  have h99:=low_at hT q1 (by omega)
  have hts:=text_small hT (f:=f) (by omega) q1 h99
  have hte:=(tEnd_bd q1).2
  have hI:=fun s' w' hs' hz'=>ih (i+1) s' w' hs' q1 (by omega) h99 hz'
  rw [q3] at hI
  rw [show textX l (f+1) i=textX l f (i+1)++⟨#[59]⟩ by
   rw [textX,getD_at hi,hnd]
   simp only [show ¬ (8:Int)=1 by decide,show ¬ (8:Int)=2 by decide,show ¬ (8:Int)=3 by decide,show ¬ (8:Int)=4 by decide,show ¬ (8:Int)=5 by decide,show ¬ (8:Int)=6 by decide,show ¬ (8:Int)=7 by decide,if_false]]
  exact swrite_8 hs hi hnd hm40 hsz (by omega) (hd_ hI)
theorem textL_ne {l:List Nd} (hT:Tr l) (h9:opAt l 0≠9):(textL l).data.toList≠[]:=by
 have h0:=hT.pos0
 have hoe:opAt l 0=l[0].op:=by rw [opAt,getD_at h0]
 have htop:=hT.tops h0
 rw [decide_eq_true (rfl:0=0)] at htop
 have h7:=of_decide_eq_true htop
 have hone:=hT.one _ (List.getElem_mem h0)
 have hop:l[0].op<=9:=by
  by_cases hc:9<l[0].op
  ·rw [treeOne,if_pos (.inr (.inl hc))] at hone;cases hone
  ·omega
 have hcs:l[0].op=7∨l[0].op=8:=by omega
 unfold textL
 obtain ⟨m,hm⟩:∃ m,l.length=m+1:=⟨l.length-1,by omega⟩
 rw [hm,textX,getD_at h0]
 rcases hcs with h|h
 ·simp only [h,show ¬ (7:Int)=1 by decide,show ¬ (7:Int)=2 by decide,show ¬ (7:Int)=3 by decide,show ¬ (7:Int)=4 by decide,show ¬ (7:Int)=5 by decide,show ¬ (7:Int)=6 by decide,if_false,if_true]
  simp [ByteArray.data_append]
 ·simp only [h,show ¬ (8:Int)=1 by decide,show ¬ (8:Int)=2 by decide,show ¬ (8:Int)=3 by decide,show ¬ (8:Int)=4 by decide,show ¬ (8:Int)=5 by decide,show ¬ (8:Int)=6 by decide,show ¬ (8:Int)=7 by decide,if_false]
  simp [ByteArray.data_append]
theorem sline_any {l:List Nd} (hT:Tr l) (h9:opAt l 0≠9) (A:Option Addr) (c:Nat) (w:World) (hN:Nds w w.heap.size A l) (hp:PowT w) :
  Calls Tryz.prog 36 #[.slice A l.length c] w (Ret w (.string (textL l))):=by
 have HNE:=hd_ (textL_ne hT h9)
 have hST:SySt w.heap.size w.heap.size A c l 0 .empty (w.alloc (.cells #[.pointer none,.slice none 0 0,.slice A l.length c,.int .i64 (0:Nat)] 130)) :=
  ⟨SyW.new w _,hN.mkunder ((Below.refl _ _).alloc (Nat.le_refl _) _) (Nat.le_refl _),hp.past ((Below.refl _ _).alloc (Nat.le_refl _) _),hp.lt⟩
 have hW:=swrite_any hT l.length 0 .empty _ hST hT.pos0 (by omega) h9 (by decide)
 rw [show textX l l.length 0=textL l from rfl,ByteArray.empty_append] at hW
 have HW:=hd_ hW
 have HAL:Hid (Below w.heap.size w (w.alloc (.cells #[.pointer none,.slice none 0 0,.slice A l.length c,.int .i64 (0:Nat)] 130))):=hd_ ((Below.refl _ _).alloc (Nat.le_refl _) _)
 generalize textL l=T at *
 clear hW hST hN hp h9 hT
 go_enter Tryz.func36,Tryz.ntmps36
 go_wp2_with (first
  | (go_at_call 61;refine HW.out.mono ?_;rintro e w2 ⟨rfl,hm,hB2,hO2,hz2⟩;have HM:=hd_ hm;have hB3:=HAL.out.trans hB2;clear hm hB2 hO2)
  | (go_at_call 37;refine (sy_string _ _ _ _ _ _ HM.out.wr HNE.out).mono ?_;rintro e w3 ⟨rfl,hB4⟩))
 go_ret
 exact ⟨rfl,hB3.trans hB4⟩
end Go.Proofs.YtddfdmopaeghnadGreatDoor
namespace Go.Proofs.YtddfdmopaeghnadGreatDoor
theorem Flt.doc {ns:List Nd} {t:ByteArray} (h:Flt ns t) (hl:ns.length<=400):∃ x,Doc ns x/\x.flat=some t/\∀ d ∈ x.enc,d.op≠9:=by
 obtain ⟨x,h1,h2,h3,h4,h5⟩:=h
 exact ⟨x,⟨h1,h2.symm,h4,hl⟩,h3,by rw [h2];exact h5⟩
theorem docL_flat {l:List Nd} (h:treeF l=0) (h9:opAt l 0≠9):Flt (docL l) (textL l):=by
 have hT:=Tr.of_check h
 have h0:=hT.pos0
 have hoe:opAt l 0=(l[0]'h0).op:=by rw [opAt,getD_at h0]
 exact docT_flat hT l.length 0 (by omega) hT.pos0 (by rw [← hoe];exact h9)
end Go.Proofs.YtddfdmopaeghnadGreatDoor
namespace Go.Proofs.YtddfdmopaeghnadGreatDoor
open Go.RowKit
def LineSaid (u:List Nd) (t:ByteArray):Prop:=t.size<=2000/\∀ (A:Option Addr) (c:Nat) (w:World),Nds w w.heap.size A u->PowT w->Calls Tryz.prog 36 #[.slice A u.length c] w (Ret w (.string t))
theorem lineSaid_doc {u:List Nd} (h:treeF u=0) (h9:opAt u 0≠9):LineSaid u (textL u):=by
 have hT:=Tr.of_check h
 refine ⟨?_,fun A c w hN hp=>sline_any hT h9 A c w hN hp⟩
 have h1:=(text_small hT (f:=u.length) (by omega) hT.pos0 h9).2
 have h2:=(tEnd_bd hT.pos0).2
 have h3:=hT.len
 show (textX u u.length 0).size<=2000
 omega
end Go.Proofs.YtddfdmopaeghnadGreatDoor
