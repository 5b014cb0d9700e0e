/- Walks of the reference's word, two, under, Bound, Dec. With what it rests on. Conditions: as each theorem states them. -/
import Derived.Test.YtddfdmopaeghnacGreatDoorLqCa
import Derived.Test.YtddfdmopaeghnacGreatDoorLqMk
import Derived.Deep.Cut
import Derived.Test.YtddfdmopaeghnacGreatDoorLqLo
import Derived.Deep.RegionHeld3
import Derived.Deep.RegionWith
set_option maxRecDepth 100000
set_option maxHeartbeats 16000000
namespace Go.Proofs.YtddfdmopaeghnacGreatDoor
open Go.RowKit
theorem r5_ {P:Program} (w:World) (t:TypeId) (s:ByteArray) (ht:P.underlying t=some .string) (l h:Int) (h0:0<=l) (h1:l<=h) (h2:h<=s.size) :
  (Instr.slice t (.string s) (some (.int .i64 l)) (some (.int .i64 h)) none).run P w=.ok (.string (s.extract l.toNat h.toNat)) w:=by
 have eh:(h.toNat:Int)=h:=Int.toNat_of_nonneg (by omega)
 simp [Instr.slice,run_underlying ht,Instr.sliceBounds,run_sliceBound, *,(by omega:0<=h)]
theorem dG_ (s:ByteArray) (hs:s.size<=maxLen) (w:World):Calls Tryz.prog 101 #[.string s] w (d4_ (aV_ s) w):=by
 have HL:=hd_ (NdF.lit w ⟨1,s,0⟩ hs)
 clear hs
 go_enter Tryz.func101,Tryz.ntmps101
 go_wp2
 go_ret
 exact ⟨_,_,rfl,HL.out,aA_⟩
theorem lH_ {w w' w0:World} {base:Nat} {e:TypeId} {sz n:Nat} {v:Value} {xs:List Value} (hb:Below base w0 w) (ho:w.ownsRow base e sz v n xs) (hg:w.grownBy w' v.ownBlock) (hB:base<=w.heap.size):Below base w0 w' :=
 hb.grown hg hB (fun k hk=>(ho.lt k hk).1)
theorem cK_ (a b:List Nd) (A B:Option Addr) (c d:Nat) (w:World) (ha:Nds w w.heap.size A a) (hb:Nds w w.heap.size B b) (hsz:a.length+b.length<=10000) :
  Calls Tryz.prog 105 #[.slice A a.length c,.slice B b.length d] w (d4_ (aQ_ a b) w):=by
 obtain ⟨i0,hi0,hz0,hz1,hz2⟩:=info_parts kA_
 have HA:=hd_ (ha.1.alloc (.cells #[.int .i64 6,.string .empty,.int .i64 0] 157))
 have HB:=hd_ hb
 have HT:Hid (∀ z ∈ aQ_ a b,z.text.size<=maxLen):=hd_ (by
  intro z hz
  simp only [aQ_,List.mem_cons,List.mem_append] at hz
  rcases hz with rfl|hz|hz
  ·simp [maxLen]
  ·exact ha.2.2 _ hz
  ·exact hb.2.2 _ hz)
 have H0:=hd_ (World.ownsRow_lit (base:=w.heap.size) (e:=157) (size:=3) w #[.int .i64 6,.string .empty,.int .i64 0] 1 (Nat.le_refl _) (by simp [maxLen]) (by simp))
 have HAL:Hid (Below w.heap.size w (w.alloc (.cells #[.int .i64 6,.string .empty,.int .i64 0] 157))):=hd_ ((Below.refl _ _).alloc (Nat.le_refl _) _)
 clear ha hb
 go_enter Tryz.func105,Tryz.ntmps105
 go_upto_region 3 with (at_builtin;refine aB_ _ rfl (.tmp 8) (.tmp 9) _ rfl w.heap.size 157 i0 _ 3 32 Tryz.underlying26 hi0 hz0 hz1 hz2 rfl (by omega) _ 1 _ rfl H0.out _ A a.length c _ rfl HA.out (bG_ a) (by simp only [maxLen];omega) (by omega) (by simp) ?_;intro v7 w7 hown7 hg7 hat7;clear hat7;obtain ⟨A7,c7,hv7⟩:=aD_ hown7;subst hv7;have H7:=hd_ hown7;have HG7:=hd_ hg7;clear hown7 hg7)
 have HB7:=hd_ (lH_ HAL.out H0.out HG7.out (by simp))
 have hz7:=HB7.out.size
 have HBB:=hd_ (HB.out.past HB7.out).1
 clear HG7
 go_wp2_with (at_builtin;refine aB_ _ rfl (.tmp 11) (.tmp 12) _ rfl w.heap.size 157 i0 _ 3 32 Tryz.underlying26 hi0 hz0 hz1 hz2 rfl (by omega) _ (1+a.length) _ rfl H7.out _ B b.length d _ rfl HBB.out (bG_ b) (by simp only [maxLen];omega) (by omega) (by omega) ?_;intro v8 w8 hown8 hg8 hat8;clear hat8;obtain ⟨A8,c8,hv8⟩:=aD_ hown8;subst hv8;have H8:=hd_ hown8;have HG8:=hd_ hg8;clear hown8 hg8)
 go_ret
 have hl:(aQ_ a b).length=1+a.length+b.length:=by rw [aJ_];omega
 refine ⟨A8,c8,by rw [hl];rfl,NdF.own (n:=1+a.length+b.length) (c:=c8) ?_ hl.symm (by rw [hl];simp only [maxLen];omega) HT.out,lH_ HB7.out H7.out HG8.out hz7⟩
 have h8:=H8.out
 simp only [aQ_,List.flatMap_cons,List.flatMap_append]
 simpa [c6_] using h8
theorem uU_ {P:Prop} (h:P:=by
 cases sec
 ·go_enter Tryz.func155,Tryz.ntmps155
  go_wp2
  go_ret
  exact ⟨rfl,aA_⟩
 ·go_enter Tryz.func155,Tryz.ntmps155
  go_wp2
  go_ret
  exact ⟨rfl,aA_⟩):P:=h
theorem zB_ (po pn ko kn:Int) (pt kt:ByteArray) (sec:Bool) (w:World) :
  Calls Tryz.prog 155 #[.agg #[.int .i64 po,.string pt,.int .i64 pn],.agg #[.int .i64 ko,.string kt,.int .i64 kn],.bool sec] w (Ret w (.bool (cQ_ po ko sec))):=by
 by_cases h6:po=6
 ·subst h6
  by_cases k5:ko=5
  ·subst k5
   rw [show cQ_ 6 5 sec=true by cases sec <;> rfl]
   go_enter Tryz.func155,Tryz.ntmps155
   go_wp2
   go_ret
   exact ⟨rfl,aA_⟩
  ·have k5b:(ko==5)=false:=by simpa using k5
   by_cases k6:ko=6
   ·subst k6
    rw [show cQ_ 6 6 sec=sec by cases sec <;> rfl]
    exact uU_
   ·have k6b:(ko==6)=false:=by simpa using k6
    rw [show cQ_ 6 ko sec=false by simp [cQ_,k5,k6]]
    clear k5 k6
    exact uU_
 ·by_cases h5:po=5
  ·subst h5
   by_cases k5:ko=5
   ·subst k5
    rw [show cQ_ 5 5 sec=sec by cases sec <;> rfl]
    exact uU_
   ·have k5b:(ko==5)=false:=by simpa using k5
    rw [show cQ_ 5 ko sec=false by simp [cQ_,k5]]
    clear k5 h6
    exact uU_
  ·have h5b:(po==5)=false:=by simpa using h5
   have h6b:(po==6)=false:=by simpa using h6
   rw [show cQ_ po ko sec=false by simp [cQ_,h5,h6]]
   clear h5 h6
   exact uU_
theorem aeI_ {w:World} {base n g:Nat} {e:TypeId} {size:Nat} (cs:Array Value) (hg:w.heap.size=g) (hb:base<=g) (hm:n<=maxLen) (hs:cs.size=n*size) :
  (w.alloc (.cells cs e)).ownsRow base e size (.slice (some ⟨g,0,none⟩) n n) n cs.toList:=by
 subst hg
 exact World.ownsRow_lit w cs n hb hm hs
theorem qD_ (op n:Int) (t:ByteArray) (ht:t.size<=maxLen) (a:List Nd) (A:Option Addr) (c:Nat) (w:World) (ha:Nds w w.heap.size A a) (hsz:a.length<=10000) :
  Calls Tryz.prog 104 #[.agg #[.int .i64 op,.string t,.int .i64 n],.slice A a.length c] w (d4_ (⟨op,t,n⟩::a) w):=by
 obtain ⟨i0,hi0,hz0,hz1,hz2⟩:=info_parts kA_
 have hB1:Below w.heap.size w (w.alloc (.cells #[.int .i64 op,.string t,.int .i64 n] 157)):=(Below.refl _ _).alloc (Nat.le_refl _) _
 have HA:=hd_ ((ha.past hB1).1.alloc (.cells #[.int .i64 op,.string t,.int .i64 n] 157))
 have HT:Hid (∀ z ∈ (⟨op,t,n⟩::a:List Nd),z.text.size<=maxLen):=hd_ (by
  intro z hz
  simp only [List.mem_cons] at hz
  rcases hz with rfl|hz
  ·exact ht
  ·exact ha.2.2 _ hz)
 have H0:=hd_ (aeI_ (w:=w.alloc (.cells #[.int .i64 op,.string t,.int .i64 n] 157)) (base:=w.heap.size) (e:=157) (size:=3) (g:=w.heap.size+1) (n:=1) #[.int .i64 op,.string t,.int .i64 n] (by simp) (by omega) (by simp [maxLen]) (by simp))
 have HAL:=hd_ (hB1.alloc hB1.size (.cells #[.int .i64 op,.string t,.int .i64 n] 157))
 clear ha hB1
 go_enter Tryz.func104,Tryz.ntmps104
 go_wp2_with (at_builtin;refine aB_ _ rfl (.tmp 8) (.tmp 9) _ rfl w.heap.size 157 i0 _ 3 32 Tryz.underlying26 hi0 hz0 hz1 hz2 rfl (by omega) _ 1 _ rfl H0.out _ A a.length c _ rfl HA.out (bG_ a) (by simp only [maxLen];omega) (by omega) (by simp;omega) ?_;intro v7 w7 hown7 hg7 hat7;clear hat7;obtain ⟨A7,c7,hv7⟩:=aD_ hown7;subst hv7;have H7:=hd_ hown7;have HG7:=hd_ hg7;clear hown7 hg7)
 go_ret
 refine ⟨A7,c7,by rw [List.length_cons,Nat.add_comm];rfl,NdF.own (n:=1+a.length) (c:=c7) ?_ (by rw [List.length_cons,Nat.add_comm]) (by rw [List.length_cons];simp only [maxLen];omega) HT.out,lH_ HAL.out H0.out HG7.out (by simp;omega)⟩
 have h7:=H7.out
 rw [List.flatMap_cons]
 simpa [c6_] using h7
theorem ad8_ {q:Nat} (h:¬ q<10) (t:ByteArray):(⟨(Lib.decDigits q).toArray⟩:ByteArray)++t=⟨(Lib.decDigits (q / 10)).toArray⟩++(⟨#[UInt8.ofNat (48+q % 10)]⟩++t):=by
 apply ByteArray.ext
 apply Array.toList_inj.1
 rw [Lib.decDigits,dif_neg h]
 simp [ByteArray.data_append]
theorem ag4_ {d:Nat} (h:d<10):(⟨#[48,49,50,51,52,53,54,55,56,57]⟩:ByteArray).extract d (d+1)=⟨#[UInt8.ofNat (48+d)]⟩:=by
 have:d=0∨d=1∨d=2∨d=3∨d=4∨d=5∨d=6∨d=7∨d=8∨d=9:=by omega
 rcases this with rfl|rfl|rfl|rfl|rfl|rfl|rfl|rfl|rfl|rfl <;> decide +kernel
theorem ad7_ {u q:Nat} (hu:u<=999999) {t:ByteArray} (h:(⟨(Lib.decDigits u).toArray⟩:ByteArray)=⟨(Lib.decDigits q).toArray⟩++t):t.size<=5:=by
 have h1:=congrArg ByteArray.size h
 have h2:=(hT_ (n:=(u:Int)) (by omega) (by omega)).2
 rw [Lib.itoa_nonneg] at h2
 have h3:=Lib.nDigits_pos q
 rw [← Lib.decDigits_length] at h3
 rw [ByteArray.size_append] at h1
 simp only [ByteArray.size,List.size_toArray] at h1 ⊢
 omega
theorem aeM_ (u:Nat) (hu:u<=999999) (w:World):Calls Tryz.prog 102 #[.int .i64 (u:Nat)] w fun e w'=>e=.returned (.string ⟨(Lib.itoa (u:Nat)).toArray⟩)/\w=w':=by
 rw [Lib.itoa_nonneg]
 have HSZ:=hd_ (fun (q:Nat) (t:ByteArray) h=>ad7_ (u:=u) (q:=q) (t:=t) hu h)
 have H9:Hid (∀ (d:Nat) (w':World),d<10->(Instr.slice 9 (.string ⟨#[48,49,50,51,52,53,54,55,56,57]⟩) (some (.int .i64 (d:Nat))) (some (.int .i64 ((d:Int)+1))) none).run Tryz.prog w'=.ok (.string ⟨#[UInt8.ofNat (48+d)]⟩) w'):=hd_ (fun d w' hd=>by
  have h:=r5_ (P:=Tryz.prog) w' 9 ⟨#[48,49,50,51,52,53,54,55,56,57]⟩ Tryz.underlying9 (d:Int) ((d:Int)+1) (by omega) (by omega) (by show (d:Int)+1<=10;omega)
  rw [h,show ((d:Int)).toNat=d by omega,show ((d:Int)+1).toNat=d+1 by omega,ag4_ hd])
 go_enter Tryz.func102,Tryz.ntmps102
 go_wp2
 go_loop [0,3] (fun n s=>∃ (q:Nat) (t:ByteArray),n=.int .i64 q/\s=.string t/\q<=999999/\Hid ((⟨(Lib.decDigits u).toArray⟩:ByteArray)=⟨(Lib.decDigits q).toArray⟩++t)) (fun n _=>(intOf n).toNat)
 case atStart=>exact ⟨u,.empty,rfl,rfl,hu,hd_ (by simp)⟩
 case round =>
  obtain ⟨q,t,rfl,rfl,hq,HQ⟩:=hrel
  have hts:=HSZ.out q t HQ.out
  by_cases h10:q<10
  ·obtain ⟨cc,hcc⟩:∃ cc,UInt8.ofNat (48+q)=cc:=⟨_,rfl⟩
   have hsl:=fun w'=>H9.out q w' h10
   rw [hcc] at hsl
   have HCC:=hd_ hcc
   clear hcc
   have hcat:∀ w',(Op.stringOp .add ⟨#[cc]⟩ t).run Tryz.prog w'=.ok (.string (⟨#[cc]⟩++t)) w':=fun w'=>run_string_add_sum w' _ t (by show 1+t.size<=_;omega)
   go_wp2
   go_ret
   refine ⟨?_,rfl⟩
   rw [HQ.out,Lib.decDigits_one h10,HCC.out];rfl
  ·have h9:9<q:=by omega
   obtain ⟨d,hd⟩:∃ d,q % 10=d:=⟨_,rfl⟩
   have hd10:d<10:=by omega
   have hmod:(q:Int) % 10=(d:Int):=by omega
   have HST:=hd_ (ad8_ h10 t)
   rw [hd] at HST
   have hsl:=fun w'=>H9.out d w' hd10
   obtain ⟨cc,hcc⟩:∃ cc,UInt8.ofNat (48+d)=cc:=⟨_,rfl⟩
   rw [hcc] at hsl HST
   clear hcc
   have hcat:∀ w',(Op.stringOp .add ⟨#[cc]⟩ t).run Tryz.prog w'=.ok (.string (⟨#[cc]⟩++t)) w':=fun w'=>run_string_add_sum w' _ t (by show 1+t.size<=_;omega)
   clear hd
   go_wp2
   go_round
   case rel=>exact ⟨q / 10,⟨#[cc]⟩++t,by go_num,rfl,by omega,hd_ (by rw [HQ.out,HST.out])⟩
   case measure=>simp [intOf];omega
theorem eZ_ {P:Program} {c:Code} {Q:Exit->Act->World->Prop} {a:Act} {w:World} (S:World->Prop) (hS:S w) (h:∀ w',S w'->Code.wp P c Q a w'):Code.wp P c Q a w:=h w hS
def qP_ (A:Option Addr) (c:Nat) (l:List Nd) (f:Nat):Prop :=
 ∀ (i:Nat) (v:Int) (w:World),v=i->Nds w w.heap.size A l->i<l.length->l.length<=i+f->aW_ l i≠9->Calls Tryz.prog 62 #[.slice A l.length c,.int .i64 v] w (d4_ (aG_ l f i) w)
theorem p9_ {l:List Nd} (hT:Tr l) (A:Option Addr) (c:Nat) {i:Nat} (hi:i<l.length) {v:Int} (hv:v=i) (w:World) (hN:Nds w w.heap.size A l) :
  Calls Tryz.prog 61 #[.slice A l.length c,.int .i64 v] w (Ret w (.int .i64 (a7_ l i:Nat))):=by
 subst hv
 have h:=uB_ l A c hT.one (l.length-i) i w hN (by omega) (by omega)
 rw [hT.endOf hi] at h
 exact h
theorem kD_ (a:List Nd) (A:Option Addr) (c:Nat) (w:World) (ha:Nds w w.heap.size A a) (hsz:a.length<=10000) :
  Calls Tryz.prog 104 #[.agg #[.int .i64 7,.string .empty,.int .i64 2],.slice A a.length c] w (d4_ (d7_ a) w):=qD_ 7 2 .empty (by simp [maxLen]) a A c w ha hsz
theorem jJ_ (a:List Nd) (A:Option Addr) (c:Nat) (w:World) (ha:Nds w w.heap.size A a) (hsz:a.length<=10000) :
  Calls Tryz.prog 104 #[.agg #[.int .i64 8,.string .empty,.int .i64 0],.slice A a.length c] w (d4_ (bZ_ a) w):=qD_ 8 0 .empty (by simp [maxLen]) a A c w ha hsz
theorem f5_ {l:List Nd} (hT:Tr l) {f i:Nat} (hf:l.length<=i+f) (hi:i<l.length) (h9:aW_ l i≠9):(aG_ l f i).length<=900:=by
 have h1:aW_ l i=l[i].op:=by rw [aW_,bF_ hi]
 have h2:=lN_ hT f i hf hi (by omega)
 have h3:=jP_ hi
 have h4:=hT.len
 omega
theorem gI_ {l:List Nd} (hT:Tr l) {i:Nat} (hi:i<l.length) (h0:0<i):aW_ l i≠9:=by
 have h1:aW_ l i=l[i].op:=by rw [aW_,bF_ hi]
 have:=hT.low hi h0
 omega
theorem kV_ {l:List Nd} (hT:Tr l) {f m a z:Nat} (h:dR_ l a m z) (h0:0<a) (hf:l.length<=a+f) (hz:z<=l.length):(bU_ (aG_ l f) (a7_ l) a m).length<=900:=by
 have h1:=(k4_ (g:=aG_ l f) m a z h (fun b hb hl=>lN_ hT f b (by omega) hl (by have:=hT.low hl (by omega);omega))).2
 have h4:=hT.len
 omega
theorem nM_ {l:List Nd}:∀ {m a z:Nat},dR_ l a m z->a<=l.length->a<=z/\z<=l.length:=by
 intro m
 induction m with
 | zero=>intro a z h ha;rw [dR_] at h;omega
 | succ m ih =>
  intro a z h ha
  obtain ⟨h1,h2,h3⟩:=h
  have:=ih h3 (jP_ h1).2
  omega
theorem mG_ {A:Option Addr} {c f:Nat} {l:List Nd} (hT:Tr l) (ih:qP_ A c l f) (p k:Nat) (vp vk:Int) (sec:Bool) (w:World) (hvp:vp=p) (hvk:vk=k) (hN:Nds w w.heap.size A l) (hp:p<l.length) (hk:k<l.length) (h0:0<k) (hf:l.length<=k+f) :
  Calls Tryz.prog 103 #[.slice A l.length c,.int .i64 vp,.int .i64 vk,.bool sec] w (d4_ (d8_ (aW_ l p) (aW_ l k) sec (aG_ l f k)) w):=by
 subst hvp hvk
 have h9:=gI_ hT hk h0
 have hdl:=f5_ hT hf hk h9
 have HI:=hd_ (fun w' hw'=>ih k k w' rfl hw' hk hf h9)
 obtain ⟨b,off,po,pt,pn,rfl,hb,hnd,hts,d1,d2,d3⟩:=hN.node (Below.refl _ _) hp
 obtain ⟨b',off',ko,kt,kn,hq,hb',hnk,hts',g1,g2,g3⟩:=hN.node (Below.refl _ _) hk
 cases hq
 have hpe:aW_ l p=po:=by rw [aW_,bF_ hp,hnd]
 have hke:aW_ l k=ko:=by rw [aW_,bF_ hk,hnk]
 rw [hpe,hke]
 generalize aG_ l f k=d at *
 have hm:=hT.len
 have HN:=hd_ hN
 have HBD:=hd_ (fun w'=>zB_ po pn ko kn pt kt sec w')
 have HB:Hid (Below w.heap.size w w):=hd_ (Below.refl _ _)
 have hz:w.heap.size<=w.heap.size:=Nat.le_refl _
 clear hN hnd hnk hpe hke ih hT h9 hf hb'
 cases hbd:cQ_ po ko sec with
 | true =>
  rw [hbd] at HBD
  have hkd:d8_ po ko sec d=aQ_ (aV_ ⟨#[40]⟩) (aQ_ d (aV_ ⟨#[41]⟩)):=by simp [d8_,hbd]
  rw [hkd]
  clear hkd hbd
  go_enter Tryz.func103,Tryz.ntmps103
  go_wp2_with (first
   | (go_at_call 62;(fail_if_success have z:=S0);refine (HI.out _ HN.out).mono ?_;rintro e w1 ⟨A_d,c_d,rfl,hn,hB⟩;have HV_d:=hd_ (hn.less hz);have HN:=hd_ (HN.out.past hB);have HB:=hd_ (HB.out.trans (hB.mono hz));have hz:=Nat.le_trans hz hB.size;clear hn hB;have S0:=hd_ True.intro))
  obtain ⟨e0,e1,e2⟩:w1.cell? ⟨b,off+p*3,none⟩=some (.int .i64 po)/\w1.cell? ⟨b,off+p*3+1,none⟩=some (.string pt)/\w1.cell? ⟨b,off+p*3+2,none⟩=some (.int .i64 pn):=⟨(HB.out.cell (p:=⟨b,off+p*3,none⟩) hb).trans d1,(HB.out.cell (p:=⟨b,off+p*3+1,none⟩) hb).trans d2,(HB.out.cell (p:=⟨b,off+p*3+2,none⟩) hb).trans d3⟩
  obtain ⟨k0,k1,k2⟩:w1.cell? ⟨b,off+k*3,none⟩=some (.int .i64 ko)/\w1.cell? ⟨b,off+k*3+1,none⟩=some (.string kt)/\w1.cell? ⟨b,off+k*3+2,none⟩=some (.int .i64 kn):=⟨(HB.out.cell (p:=⟨b,off+k*3,none⟩) hb).trans g1,(HB.out.cell (p:=⟨b,off+k*3+1,none⟩) hb).trans g2,(HB.out.cell (p:=⟨b,off+k*3+2,none⟩) hb).trans g3⟩
  have hbl:b<w1.heap.size:=Nat.lt_of_lt_of_le hb hz
  go_region_held3 (fun w'=>w'.cell? ⟨b,off+p*3,none⟩=some (.int .i64 po)/\w'.cell? ⟨b,off+p*3+1,none⟩=some (.string pt)/\w'.cell? ⟨b,off+p*3+2,none⟩=some (.int .i64 pn)/\w'.cell? ⟨b,off+k*3,none⟩=some (.int .i64 ko)/\w'.cell? ⟨b,off+k*3+1,none⟩=some (.string kt)/\w'.cell? ⟨b,off+k*3+2,none⟩=some (.int .i64 kn))
   (exact ⟨e0,e1,e2,k0,k1,k2⟩)
   (first|(go_at_call 155;refine (HBD.out _).mono ?_;rintro e w2 ⟨rfl,hB⟩;have e0:=(hB.cell (p:=⟨b,off+p*3,none⟩) hbl).trans e0;have e1:=(hB.cell (p:=⟨b,off+p*3+1,none⟩) hbl).trans e1;have e2:=(hB.cell (p:=⟨b,off+p*3+2,none⟩) hbl).trans e2;have k0:=(hB.cell (p:=⟨b,off+k*3,none⟩) hbl).trans k0;have k1:=(hB.cell (p:=⟨b,off+k*3+1,none⟩) hbl).trans k1;have k2:=(hB.cell (p:=⟨b,off+k*3+2,none⟩) hbl).trans k2;have hB:=b7_ hB;have HN:=hd_ (HN.out.past hB);have HV_d:=hd_ (HV_d.out.past hB);have HB:=hd_ (HB.out.trans (hB.mono hz));have hz:=Nat.le_trans hz hB.size))
  go_wp2_with (first
   | (go_at_call 101;(fail_if_success have z:=T0);refine (dG_ ⟨#[40]⟩ (by decide) _).mono ?_;rintro e w3 ⟨A_X,c_X,rfl,hn,hB⟩;have HV_X:=hd_ (hn.less hz);have HN:=hd_ (HN.out.past hB);have HV_d:=hd_ (HV_d.out.past hB);have HB:=hd_ (HB.out.trans (hB.mono hz));have hz:=Nat.le_trans hz hB.size;clear hn hB;have T0:=hd_ True.intro)
   | (go_at_call 101;(fail_if_success have z:=T1);have z:=T0;clear z;refine (dG_ ⟨#[41]⟩ (by decide) _).mono ?_;rintro e w4 ⟨A_Y,c_Y,rfl,hn,hB⟩;have HV_Y:=hd_ (hn.less hz);have HN:=hd_ (HN.out.past hB);have HV_d:=hd_ (HV_d.out.past hB);have HV_X:=hd_ (HV_X.out.past hB);have HB:=hd_ (HB.out.trans (hB.mono hz));have hz:=Nat.le_trans hz hB.size;clear hn hB;have T1:=hd_ True.intro)
   | (go_at_call 105;(fail_if_success have z:=T2);have z:=T1;clear z;refine (cK_ _ _ _ _ _ _ _ HV_d.out.1 HV_Y.out.1 (by (repeat (first|rw [aJ_]|rw [aO_]|rw [aX_]|rw [aL_]|rw [aE_]));omega)).mono ?_;rintro e w5 ⟨A_Z,c_Z,rfl,hn,hB⟩;have HV_Z:=hd_ (hn.less hz);have HN:=hd_ (HN.out.past hB);have HV_X:=hd_ (HV_X.out.past hB);have HB:=hd_ (HB.out.trans (hB.mono hz));have hz:=Nat.le_trans hz hB.size;clear hn hB;have T2:=hd_ True.intro)
   | (go_at_call 105;(fail_if_success have z:=T3);have z:=T2;clear z;refine (cK_ _ _ _ _ _ _ _ HV_X.out.1 HV_Z.out.1 (by (repeat (first|rw [aJ_]|rw [aO_]|rw [aX_]|rw [aL_]|rw [aE_]));omega)).mono ?_;rintro e w6 ⟨A_Q,c_Q,rfl,hn,hB⟩;have HV_Q:=hd_ (hn.less hz);have HN:=hd_ (HN.out.past hB);have HB:=hd_ (HB.out.trans (hB.mono hz));have hz:=Nat.le_trans hz hB.size;clear hn hB;have T3:=hd_ True.intro))
  go_ret
  exact ⟨A_Q,c_Q,rfl,HV_Q.out,HB.out⟩
 | false =>
  rw [hbd] at HBD
  have hkd:d8_ po ko sec d=d:=by simp [d8_,hbd]
  rw [hkd]
  clear hkd hbd
  go_enter Tryz.func103,Tryz.ntmps103
  go_wp2_with (first
   | (go_at_call 62;(fail_if_success have z:=S0);refine (HI.out _ HN.out).mono ?_;rintro e w1 ⟨A_d,c_d,rfl,hn,hB⟩;have HV_d:=hd_ (hn.less hz);have HN:=hd_ (HN.out.past hB);have HB:=hd_ (HB.out.trans (hB.mono hz));have hz:=Nat.le_trans hz hB.size;clear hn hB;have S0:=hd_ True.intro))
  obtain ⟨e0,e1,e2⟩:w1.cell? ⟨b,off+p*3,none⟩=some (.int .i64 po)/\w1.cell? ⟨b,off+p*3+1,none⟩=some (.string pt)/\w1.cell? ⟨b,off+p*3+2,none⟩=some (.int .i64 pn):=⟨(HB.out.cell (p:=⟨b,off+p*3,none⟩) hb).trans d1,(HB.out.cell (p:=⟨b,off+p*3+1,none⟩) hb).trans d2,(HB.out.cell (p:=⟨b,off+p*3+2,none⟩) hb).trans d3⟩
  obtain ⟨k0,k1,k2⟩:w1.cell? ⟨b,off+k*3,none⟩=some (.int .i64 ko)/\w1.cell? ⟨b,off+k*3+1,none⟩=some (.string kt)/\w1.cell? ⟨b,off+k*3+2,none⟩=some (.int .i64 kn):=⟨(HB.out.cell (p:=⟨b,off+k*3,none⟩) hb).trans g1,(HB.out.cell (p:=⟨b,off+k*3+1,none⟩) hb).trans g2,(HB.out.cell (p:=⟨b,off+k*3+2,none⟩) hb).trans g3⟩
  have hbl:b<w1.heap.size:=Nat.lt_of_lt_of_le hb hz
  go_region_held3 (fun w'=>w'.cell? ⟨b,off+p*3,none⟩=some (.int .i64 po)/\w'.cell? ⟨b,off+p*3+1,none⟩=some (.string pt)/\w'.cell? ⟨b,off+p*3+2,none⟩=some (.int .i64 pn)/\w'.cell? ⟨b,off+k*3,none⟩=some (.int .i64 ko)/\w'.cell? ⟨b,off+k*3+1,none⟩=some (.string kt)/\w'.cell? ⟨b,off+k*3+2,none⟩=some (.int .i64 kn))
   (exact ⟨e0,e1,e2,k0,k1,k2⟩)
   (first|(go_at_call 155;refine (HBD.out _).mono ?_;rintro e w2 ⟨rfl,hB⟩;have e0:=(hB.cell (p:=⟨b,off+p*3,none⟩) hbl).trans e0;have e1:=(hB.cell (p:=⟨b,off+p*3+1,none⟩) hbl).trans e1;have e2:=(hB.cell (p:=⟨b,off+p*3+2,none⟩) hbl).trans e2;have k0:=(hB.cell (p:=⟨b,off+k*3,none⟩) hbl).trans k0;have k1:=(hB.cell (p:=⟨b,off+k*3+1,none⟩) hbl).trans k1;have k2:=(hB.cell (p:=⟨b,off+k*3+2,none⟩) hbl).trans k2;have hB:=b7_ hB;have HN:=hd_ (HN.out.past hB);have HV_d:=hd_ (HV_d.out.past hB);have HB:=hd_ (HB.out.trans (hB.mono hz));have hz:=Nat.le_trans hz hB.size))
  go_wp2_with fail
  go_ret
  exact ⟨A_d,c_d,rfl,HV_d.out,HB.out⟩
theorem sM_ {A:Option Addr} {c f:Nat} {l:List Nd} (hT:Tr l) (ih:qP_ A c l f) :
  ∀ (m a z:Nat) (va v:Int) (w:World),dR_ l a (m+1) z->0<a->l.length<=a+f->Nds w w.heap.size A l->va=a->v=(m:Int)+1->v<=100 ->
   Calls Tryz.prog 106 #[.slice A l.length c,.int .i64 va,.int .i64 v] w (d4_ (bU_ (aG_ l f) (a7_ l) a (m+1)) w):=by
 intro m
 induction m with
 | zero =>
  intro a z va v w hP h0 hf hN hva hv hv6
  obtain ⟨q1,q2,q3⟩:=hP
  rw [show bU_ (aG_ l f) (a7_ l) a (0+1)=aG_ l f a by simp [bU_]]
  have HI:=hd_ (fun w' hw'=>ih a va w' hva hw' q1 hf (gI_ hT q1 h0))
  have HN:=hd_ hN
  obtain rfl:v=1:=by omega
  generalize aG_ l f a=d at *
  have HB:Hid (Below w.heap.size w w):=hd_ (Below.refl _ _)
  have hz:w.heap.size<=w.heap.size:=Nat.le_refl _
  clear hN ih hT q3 hv hva
  go_enter Tryz.func106,Tryz.ntmps106
  go_wp2_with (first
   | (go_at_call 62;(fail_if_success have z:=S0);refine (HI.out _ HN.out).mono ?_;rintro e w1 ⟨A_d,c_d,rfl,hn,hB⟩;have HV_d:=hd_ (hn.less hz);have HN:=hd_ (HN.out.past hB);have HB:=hd_ (HB.out.trans (hB.mono hz));have hz:=Nat.le_trans hz hB.size;clear hn hB;have S0:=hd_ True.intro))
  go_ret
  exact ⟨A_d,c_d,rfl,HV_d.out,HB.out⟩
 | succ m im =>
  intro a z va v w hP h0 hf hN hva hv hv6
  have hzl:=(nM_ hP (by have:=hP.1;omega)).2
  obtain ⟨q1,q2,q3⟩:=hP
  have hks:=kV_ (f:=f) hT q3 (by omega) (by omega) hzl
  have hdl:=f5_ hT hf q1 (gI_ hT q1 h0)
  rw [show bU_ (aG_ l f) (a7_ l) a (m+1+1)=aQ_ (aQ_ (aG_ l f a) (aV_ ⟨#[44]⟩)) (aQ_ (opN 2) (bU_ (aG_ l f) (a7_ l) (a7_ l a) (m+1))) by simp [bU_]]
  have HI:=hd_ (fun w' hw'=>ih a va w' hva hw' q1 hf (gI_ hT q1 h0))
  have HE:=hd_ (fun w' hw'=>p9_ hT A c q1 hva w' hw')
  have HK:=hd_ (fun w' hw'=>im (a7_ l a) z (a7_ l a:Nat) (v-1) w' q3 (by omega) (by omega) hw' rfl (by omega) (by omega))
  have HN:=hd_ hN
  have hv1:(v==1)=false:=by simp;omega
  have hv2:2<=v:=by omega
  generalize bU_ (aG_ l f) (a7_ l) (a7_ l a) (m+1)=K at *
  generalize aG_ l f a=d at *
  generalize a7_ l a=z' at *
  have HB:Hid (Below w.heap.size w w):=hd_ (Below.refl _ _)
  have hz:w.heap.size<=w.heap.size:=Nat.le_refl _
  clear hN ih hT q3 hv im hva
  go_enter Tryz.func106,Tryz.ntmps106
  go_upto_region 5 with (first
   | (go_at_call 62;(fail_if_success have z:=S0);refine (HI.out _ HN.out).mono ?_;rintro e w1 ⟨A_d,c_d,rfl,hn,hB⟩;have HV_d:=hd_ (hn.less hz);have HN:=hd_ (HN.out.past hB);have HB:=hd_ (HB.out.trans (hB.mono hz));have hz:=Nat.le_trans hz hB.size;clear hn hB;have S0:=hd_ True.intro))
  have hal:Below w1.heap.size w1 (w1.alloc (.cells #[.int .i64 2,.string .empty,.int .i64 0] 157)):=(Below.refl _ _).alloc (Nat.le_refl _) _
  have hlit:NdF w1.heap.size (w1.alloc (.cells #[.int .i64 2,.string .empty,.int .i64 0] 157)) (some ⟨w1.heap.size,0,none⟩) (opN 2):=NdF.lit w1 ⟨2,.empty,0⟩ (by simp [maxLen])
  refine eZ_ (fun wy=>NdF w.heap.size wy (some ⟨w1.heap.size,0,none⟩) (opN 2)/\NdF w.heap.size wy A_d d/\Nds wy wy.heap.size A l/\Below w.heap.size w wy) ⟨hlit.less hz,HV_d.out.past hal,HN.out.past hal,HB.out.trans (hal.mono hz)⟩ ?_
  clear hal hlit HV_d HN HB
  rintro wb ⟨h1,h2,h3,h4⟩
  have HV_bl:=hd_ h1;have HV_d:=hd_ h2;have HN:=hd_ h3;have HB:=hd_ h4
  have hz:=h4.size
  clear h1 h2 h3 h4
  have hone:(opN 2).length=1:=rfl
  go_wp2_with (first
   | (go_at_call 101;(fail_if_success have z:=T0);refine (dG_ ⟨#[44]⟩ (by decide) _).mono ?_;rintro e w3 ⟨A_X,c_X,rfl,hn,hB⟩;have HV_X:=hd_ (hn.less hz);have HN:=hd_ (HN.out.past hB);have HV_d:=hd_ (HV_d.out.past hB);have HV_bl:=hd_ (HV_bl.out.past hB);have HB:=hd_ (HB.out.trans (hB.mono hz));have hz:=Nat.le_trans hz hB.size;clear hn hB;have T0:=hd_ True.intro)
   | (go_at_call 105;(fail_if_success have z:=T1);have z:=T0;clear z;refine (cK_ _ _ _ _ _ _ _ HV_d.out.1 HV_X.out.1 (by (repeat (first|rw [aJ_]|rw [aO_]|rw [aX_]|rw [aL_]|rw [aE_]));omega)).mono ?_;rintro e w4 ⟨A_Y,c_Y,rfl,hn,hB⟩;have HV_Y:=hd_ (hn.less hz);have HN:=hd_ (HN.out.past hB);have HV_bl:=hd_ (HV_bl.out.past hB);have HB:=hd_ (HB.out.trans (hB.mono hz));have hz:=Nat.le_trans hz hB.size;clear hn hB;have T1:=hd_ True.intro)
   | (go_at_call 61;(fail_if_success have z:=T2);have z:=T1;clear z;refine (HE.out _ HN.out).mono ?_;rintro e w5 ⟨rfl,hB⟩;have HN:=hd_ (HN.out.past hB);have HV_bl:=hd_ (HV_bl.out.past hB);have HV_Y:=hd_ (HV_Y.out.past hB);have HB:=hd_ (HB.out.trans (hB.mono hz));have hz:=Nat.le_trans hz hB.size;clear hB;have T2:=hd_ True.intro)
   | (go_at_call 106;(fail_if_success have z:=T3);have z:=T2;clear z;refine (HK.out _ HN.out).mono ?_;rintro e w6 ⟨A_K,c_K,rfl,hn,hB⟩;have HV_K:=hd_ (hn.less hz);have HN:=hd_ (HN.out.past hB);have HV_bl:=hd_ (HV_bl.out.past hB);have HV_Y:=hd_ (HV_Y.out.past hB);have HB:=hd_ (HB.out.trans (hB.mono hz));have hz:=Nat.le_trans hz hB.size;clear hn hB;have T3:=hd_ True.intro)
   | (go_at_call 105;(fail_if_success have z:=T4);have z:=T3;clear z;refine (cK_ _ _ _ _ _ _ _ HV_bl.out.1 HV_K.out.1 (by (repeat (first|rw [aJ_]|rw [aO_]|rw [aX_]|rw [aL_]|rw [aE_]));omega)).mono ?_;rintro e w7 ⟨A_V,c_V,rfl,hn,hB⟩;have HV_V:=hd_ (hn.less hz);have HN:=hd_ (HN.out.past hB);have HV_Y:=hd_ (HV_Y.out.past hB);have HB:=hd_ (HB.out.trans (hB.mono hz));have hz:=Nat.le_trans hz hB.size;clear hn hB;have T4:=hd_ True.intro)
   | (go_at_call 105;(fail_if_success have z:=T5);have z:=T4;clear z;refine (cK_ _ _ _ _ _ _ _ HV_Y.out.1 HV_V.out.1 (by (repeat (first|rw [aJ_]|rw [aO_]|rw [aX_]|rw [aL_]|rw [aE_]));omega)).mono ?_;rintro e w8 ⟨A_Q,c_Q,rfl,hn,hB⟩;have HV_Q:=hd_ (hn.less hz);have HN:=hd_ (HN.out.past hB);have HB:=hd_ (HB.out.trans (hB.mono hz));have hz:=Nat.le_trans hz hB.size;clear hn hB;have T5:=hd_ True.intro))
  go_ret
  exact ⟨A_Q,c_Q,rfl,HV_Q.out,HB.out⟩
structure RfN (A:Option Addr) (l:List Nd) (op:Int) (t:ByteArray) (n:Int) (w0 w:World):Prop where
 nd:w.heap[w0.heap.size]?=some (.cells #[.int .i64 op,.string t,.int .i64 n] 25 (0,0))
 gr:w.heap[w0.heap.size+3]?=some (.cells #[.int .i64 8,.string .empty,.int .i64 0] 157 (0,0))
 dp:w.heap[w0.heap.size+4]?=some (.cells #[.int .i64 7,.string .empty,.int .i64 2] 157 (0,0))
 bl:NdF w0.heap.size w (some ⟨w0.heap.size+1,0,none⟩) (opN 2)
 so:NdF w0.heap.size w (some ⟨w0.heap.size+2,0,none⟩) (opN 3)
 nds:Nds w w.heap.size A l
 bel:Below w0.heap.size w0 w
theorem NdF.litG (w:World) (d:Nd) (g:Nat) (hg:w.heap.size=g) (hd:d.text.size<=maxLen):NdF g (w.alloc (.cells #[.int .i64 d.op,.string d.text,.int .i64 d.n] 157)) (some ⟨g,0,none⟩) [d]:=by
 subst hg;exact NdF.lit w d hd
theorem h6_ {A:Option Addr} {l:List Nd} (op:Int) (t:ByteArray) (n:Int) (w:World) (hN:Nds w w.heap.size A l):RfN A l op t n w (((((w.alloc (.cells #[.int .i64 op,.string t,.int .i64 n] 25)).alloc (.cells #[.int .i64 2,.string .empty,.int .i64 0] 157)).alloc (.cells #[.int .i64 3,.string .empty,.int .i64 0] 157)).alloc (.cells #[.int .i64 8,.string .empty,.int .i64 0] 157)).alloc (.cells #[.int .i64 7,.string .empty,.int .i64 2] 157)):=by
 have b1:Below w.heap.size w (w.alloc (.cells #[.int .i64 op,.string t,.int .i64 n] 25)):=(Below.refl _ _).alloc (Nat.le_refl _) _
 have z1:(w.alloc (.cells #[.int .i64 op,.string t,.int .i64 n] 25)).heap.size=w.heap.size+1:=by simp
 have n1:(w.alloc (.cells #[.int .i64 op,.string t,.int .i64 n] 25)).heap[w.heap.size]?=some (.cells #[.int .i64 op,.string t,.int .i64 n] 25 (0,0)):=aN_ rfl
 generalize w.alloc (.cells #[.int .i64 op,.string t,.int .i64 n] 25)=w1 at *
 have b2:Below w1.heap.size w1 (w1.alloc (.cells #[.int .i64 2,.string .empty,.int .i64 0] 157)):=(Below.refl _ _).alloc (Nat.le_refl _) _
 have z2:(w1.alloc (.cells #[.int .i64 2,.string .empty,.int .i64 0] 157)).heap.size=w.heap.size+2:=by simp;omega
 have l2:=NdF.litG w1 ⟨2,.empty,0⟩ (w.heap.size+1) (by omega) (by simp [maxLen])
 simp only at l2
 generalize w1.alloc (.cells #[.int .i64 2,.string .empty,.int .i64 0] 157)=w2 at *
 have b3:Below w2.heap.size w2 (w2.alloc (.cells #[.int .i64 3,.string .empty,.int .i64 0] 157)):=(Below.refl _ _).alloc (Nat.le_refl _) _
 have z3:(w2.alloc (.cells #[.int .i64 3,.string .empty,.int .i64 0] 157)).heap.size=w.heap.size+3:=by simp;omega
 have l3:=NdF.litG w2 ⟨3,.empty,0⟩ (w.heap.size+2) (by omega) (by simp [maxLen])
 simp only at l3
 generalize w2.alloc (.cells #[.int .i64 3,.string .empty,.int .i64 0] 157)=w3 at *
 have b4:Below w3.heap.size w3 (w3.alloc (.cells #[.int .i64 8,.string .empty,.int .i64 0] 157)):=(Below.refl _ _).alloc (Nat.le_refl _) _
 have z4:(w3.alloc (.cells #[.int .i64 8,.string .empty,.int .i64 0] 157)).heap.size=w.heap.size+4:=by simp;omega
 have n4:(w3.alloc (.cells #[.int .i64 8,.string .empty,.int .i64 0] 157)).heap[w.heap.size+3]?=some (.cells #[.int .i64 8,.string .empty,.int .i64 0] 157 (0,0)):=aN_ (by omega)
 generalize w3.alloc (.cells #[.int .i64 8,.string .empty,.int .i64 0] 157)=w4 at *
 have b5:Below w4.heap.size w4 (w4.alloc (.cells #[.int .i64 7,.string .empty,.int .i64 2] 157)):=(Below.refl _ _).alloc (Nat.le_refl _) _
 have n5:(w4.alloc (.cells #[.int .i64 7,.string .empty,.int .i64 2] 157)).heap[w.heap.size+4]?=some (.cells #[.int .i64 7,.string .empty,.int .i64 2] 157 (0,0)):=aN_ (by omega)
 generalize w4.alloc (.cells #[.int .i64 7,.string .empty,.int .i64 2] 157)=w5 at *
 refine ⟨?_, ?_,n5, ?_, ?_, ?_, ?_⟩
 ·exact (b5.block _ (by omega)).trans ((b4.block _ (by omega)).trans ((b3.block _ (by omega)).trans ((b2.block _ (by omega)).trans n1)))
 ·exact (b5.block _ (by omega)).trans n4
 ·exact ((((l2.past b3).past b4).past b5)).less (by omega)
 ·exact (((l3.past b4).past b5)).less (by omega)
 ·exact ((((hN.past b1).past b2).past b3).past b4).past b5
 ·exact (((b1.trans (b2.mono (by omega))).trans (b3.mono (by omega))).trans (b4.mono (by omega))).trans (b5.mono (by omega))
theorem RfN.cells {A:Option Addr} {l:List Nd} {op n:Int} {t:ByteArray} {w0 w:World} (x:RfN A l op t n w0 w) :
  (w.cell? ⟨w0.heap.size,0,none⟩=some (.int .i64 op)/\w.cell? ⟨w0.heap.size,1,none⟩=some (.string t)/\w.cell? ⟨w0.heap.size,2,none⟩=some (.int .i64 n)) /\
  (w.cell? ⟨w0.heap.size+3,0,none⟩=some (.int .i64 8)/\w.cell? ⟨w0.heap.size+3,1,none⟩=some (.string .empty)/\w.cell? ⟨w0.heap.size+3,2,none⟩=some (.int .i64 0)) /\
  (w.cell? ⟨w0.heap.size+4,0,none⟩=some (.int .i64 7)/\w.cell? ⟨w0.heap.size+4,1,none⟩=some (.string .empty)/\w.cell? ⟨w0.heap.size+4,2,none⟩=some (.int .i64 2)):=by
 refine ⟨⟨?_, ?_, ?_⟩,⟨?_, ?_, ?_⟩,⟨?_, ?_, ?_⟩⟩ <;> first|(rw [Lib.cell_of_heap x.nd];rfl)|(rw [Lib.cell_of_heap x.gr];rfl)|(rw [Lib.cell_of_heap x.dp];rfl)
theorem akA_ {A:Option Addr} {c:Nat} {l:List Nd} {i:Nat} {t:ByteArray} {n:Int} {w:World} (hN:Nds w w.heap.size A l) (hi:i<l.length) (hnd:l[i]=Nd.mk 1 t n) (h40:l.length<=40) (n0:0<=n) (n1:n<=999999) :
  Calls Tryz.prog 62 #[.slice A l.length c,.int .i64 (i:Nat)] w (d4_ (aV_ ⟨(Lib.itoa n).toArray⟩) w):=by
 have hsz:(⟨(Lib.itoa n).toArray⟩:ByteArray).size<=maxLen:=by
  have:=(hT_ n0 n1).2
  simp only [ByteArray.size,maxLen,List.size_toArray];omega
 have HSZ:=hd_ hsz
 obtain ⟨u,rfl⟩:∃ u:Nat,n=u:=⟨n.toNat,by omega⟩
 have HIT:=hd_ (fun w'=>aeM_ u (by omega) w')
 generalize (⟨(Lib.itoa (u:Nat)).toArray⟩:ByteArray)=T at *
 clear hsz
 obtain ⟨b,off,op,t',n',rfl,hb,hnd',hts,d1,d2,d3⟩:=hN.node (Below.refl _ _) hi
 rw [hnd] at hnd'
 cases hnd'
 have HR:=hd_ (h6_ 1 t (u:Nat) w hN)
 have k1:IntKind.i64.wrap ((i:Int)+1)=(i:Int)+1:=IntWalk.i64_in _ (by omega)
 clear hN hnd
 go_enter Tryz.func62,Tryz.ntmps62
 go_upto_region 6 with (fail)
 refine eZ_ (fun wy=>RfN (some ⟨b,off,none⟩) l 1 t (u:Nat) w wy) HR.out ?_
 clear HR d1 d2 d3
 rintro w1 hy
 obtain ⟨⟨y0,y1,y2⟩,⟨g0,g1,g2⟩,⟨p0,p1,p2⟩⟩:=hy.cells
 have HV_bl:=hd_ hy.bl;have HV_so:=hd_ hy.so;have HN:=hd_ hy.nds;have HB:=hd_ hy.bel;have hz:=hy.bel.size
 have hlt:w.heap.size+4<w1.heap.size:=(Array.getElem?_eq_some_iff.1 hy.dp).1
 have hob:(opN 2).length=1:=rfl
 have hos:(opN 3).length=1:=rfl
 clear hy
 go_wp2_with (first
  | (go_at_call 102;refine (HIT.out _).mono ?_;rintro e w3 ⟨rfl,rfl⟩)
  | (go_at_call 101;refine (dG_ T HSZ.out _).mono ?_;rintro e w4 ⟨A_Q,c_Q,rfl,hn,hB⟩;have HV_Q:=hd_ (hn.less hz);have HB:=hd_ (HB.out.trans (hB.mono hz));clear hn hB))
 go_ret
 exact ⟨A_Q,c_Q,rfl,HV_Q.out,HB.out⟩
theorem akB_ {A:Option Addr} {c:Nat} {l:List Nd} {i:Nat} {t:ByteArray} {n:Int} {w:World} (hN:Nds w w.heap.size A l) (hi:i<l.length) (hnd:l[i]=Nd.mk 2 t n) (h40:l.length<=40)  :
  Calls Tryz.prog 62 #[.slice A l.length c,.int .i64 (i:Nat)] w (d4_ (aV_ t) w):=by
 obtain ⟨b,off,op,t',n',rfl,hb,hnd',hts,d1,d2,d3⟩:=hN.node (Below.refl _ _) hi
 rw [hnd] at hnd'
 cases hnd'
 have HR:=hd_ (h6_ 2 t n w hN)
 have k1:IntKind.i64.wrap ((i:Int)+1)=(i:Int)+1:=IntWalk.i64_in _ (by omega)
 clear hN hnd
 go_enter Tryz.func62,Tryz.ntmps62
 go_upto_region 6 with (fail)
 refine eZ_ (fun wy=>RfN (some ⟨b,off,none⟩) l 2 t n w wy) HR.out ?_
 clear HR d1 d2 d3
 rintro w1 hy
 obtain ⟨⟨y0,y1,y2⟩,⟨g0,g1,g2⟩,⟨p0,p1,p2⟩⟩:=hy.cells
 have HV_bl:=hd_ hy.bl;have HV_so:=hd_ hy.so;have HN:=hd_ hy.nds;have HB:=hd_ hy.bel;have hz:=hy.bel.size
 have hlt:w.heap.size+4<w1.heap.size:=(Array.getElem?_eq_some_iff.1 hy.dp).1
 have hob:(opN 2).length=1:=rfl
 have hos:(opN 3).length=1:=rfl
 clear hy
 go_wp2_with (go_at_call 101;refine (dG_ t hts _).mono ?_;rintro e w4 ⟨A_Q,c_Q,rfl,hn,hB⟩;have HV_Q:=hd_ (hn.less hz);have HB:=hd_ (HB.out.trans (hB.mono hz));clear hn hB)
 go_ret
 exact ⟨A_Q,c_Q,rfl,HV_Q.out,HB.out⟩
theorem lq78 {P:Prop} (h:P:=by
 clear HR d1 d2 d3
 rintro w1 hy
 obtain ⟨⟨y0,y1,y2⟩,⟨g0,g1,g2⟩,⟨p0,p1,p2⟩⟩:=hy.cells
 have HV_bl:=hd_ hy.bl;have HV_so:=hd_ hy.so;have HN:=hd_ hy.nds;have HB:=hd_ hy.bel;have hz:=hy.bel.size
 have hlt:w.heap.size+4<w1.heap.size:=(Array.getElem?_eq_some_iff.1 hy.dp).1
 have hob:(opN 2).length=1:=rfl
 have hos:(opN 3).length=1:=rfl
 clear hy
 go_wp2_with (first
  | (go_at_call 103;(fail_if_success have z:=S0);refine (HKx.out _ HN.out).mono ?_;rintro e w2 ⟨A_x,c_x,rfl,hn,hB⟩;have HV_bl:=hd_ (HV_bl.out.past hB);have HV_x:=hd_ (hn.less hz);have HN:=hd_ (HN.out.past hB);have y0:=(hB.cell (p:=⟨w.heap.size,0,none⟩) (by simp;omega)).trans y0;have y1:=(hB.cell (p:=⟨w.heap.size,1,none⟩) (by simp;omega)).trans y1;have y2:=(hB.cell (p:=⟨w.heap.size,2,none⟩) (by simp;omega)).trans y2;have g0:=(hB.cell (p:=⟨w.heap.size+3,0,none⟩) (by simp;omega)).trans g0;have g1:=(hB.cell (p:=⟨w.heap.size+3,1,none⟩) (by simp;omega)).trans g1;have g2:=(hB.cell (p:=⟨w.heap.size+3,2,none⟩) (by simp;omega)).trans g2;have p0:=(hB.cell (p:=⟨w.heap.size+4,0,none⟩) (by simp;omega)).trans p0;have p1:=(hB.cell (p:=⟨w.heap.size+4,1,none⟩) (by simp;omega)).trans p1;have p2:=(hB.cell (p:=⟨w.heap.size+4,2,none⟩) (by simp;omega)).trans p2;have HB:=hd_ (HB.out.trans (hB.mono hz));have hz:=Nat.le_trans hz hB.size;have hlt:=Nat.lt_of_lt_of_le hlt hB.size;clear hn hB;have S0:=hd_ True.intro)
  | (go_at_call 61;(fail_if_success have z:=S1);have z:=S0;clear z;refine (HE.out _ HN.out).mono ?_;rintro e w3 ⟨rfl,hB⟩;have HV_x:=hd_ (HV_x.out.past hB);have HV_bl:=hd_ (HV_bl.out.past hB);have HN:=hd_ (HN.out.past hB);have y0:=(hB.cell (p:=⟨w.heap.size,0,none⟩) (by simp;omega)).trans y0;have y1:=(hB.cell (p:=⟨w.heap.size,1,none⟩) (by simp;omega)).trans y1;have y2:=(hB.cell (p:=⟨w.heap.size,2,none⟩) (by simp;omega)).trans y2;have g0:=(hB.cell (p:=⟨w.heap.size+3,0,none⟩) (by simp;omega)).trans g0;have g1:=(hB.cell (p:=⟨w.heap.size+3,1,none⟩) (by simp;omega)).trans g1;have g2:=(hB.cell (p:=⟨w.heap.size+3,2,none⟩) (by simp;omega)).trans g2;have p0:=(hB.cell (p:=⟨w.heap.size+4,0,none⟩) (by simp;omega)).trans p0;have p1:=(hB.cell (p:=⟨w.heap.size+4,1,none⟩) (by simp;omega)).trans p1;have p2:=(hB.cell (p:=⟨w.heap.size+4,2,none⟩) (by simp;omega)).trans p2;have HB:=hd_ (HB.out.trans (hB.mono hz));have hz:=Nat.le_trans hz hB.size;have hlt:=Nat.lt_of_lt_of_le hlt hB.size;clear hB;have S1:=hd_ True.intro)
  | (go_at_call 103;(fail_if_success have z:=S2);have z:=S1;clear z;refine (HKy.out _ HN.out).mono ?_;rintro e w4 ⟨A_y,c_y,rfl,hn,hB⟩;have HV_x:=hd_ (HV_x.out.past hB);have HV_bl:=hd_ (HV_bl.out.past hB);have HV_y:=hd_ (hn.less hz);have HN:=hd_ (HN.out.past hB);have y0:=(hB.cell (p:=⟨w.heap.size,0,none⟩) (by simp;omega)).trans y0;have y1:=(hB.cell (p:=⟨w.heap.size,1,none⟩) (by simp;omega)).trans y1;have y2:=(hB.cell (p:=⟨w.heap.size,2,none⟩) (by simp;omega)).trans y2;have g0:=(hB.cell (p:=⟨w.heap.size+3,0,none⟩) (by simp;omega)).trans g0;have g1:=(hB.cell (p:=⟨w.heap.size+3,1,none⟩) (by simp;omega)).trans g1;have g2:=(hB.cell (p:=⟨w.heap.size+3,2,none⟩) (by simp;omega)).trans g2;have p0:=(hB.cell (p:=⟨w.heap.size+4,0,none⟩) (by simp;omega)).trans p0;have p1:=(hB.cell (p:=⟨w.heap.size+4,1,none⟩) (by simp;omega)).trans p1;have p2:=(hB.cell (p:=⟨w.heap.size+4,2,none⟩) (by simp;omega)).trans p2;have HB:=hd_ (HB.out.trans (hB.mono hz));have hz:=Nat.le_trans hz hB.size;have hlt:=Nat.lt_of_lt_of_le hlt hB.size;clear hn hB;have S2:=hd_ True.intro))
 go_region_held3 (fun w'=>w'.cell? ⟨w.heap.size+3,0,none⟩=some (.int .i64 8)/\w'.cell? ⟨w.heap.size+3,1,none⟩=some (.string .empty)/\w'.cell? ⟨w.heap.size+3,2,none⟩=some (.int .i64 0)/\w'.cell? ⟨w.heap.size+4,0,none⟩=some (.int .i64 7)/\w'.cell? ⟨w.heap.size+4,1,none⟩=some (.string .empty)/\w'.cell? ⟨w.heap.size+4,2,none⟩=some (.int .i64 2))
  (exact ⟨g0,g1,g2,p0,p1,p2⟩)
  (first
  | (go_at_call 101;(fail_if_success have z:=T0);refine (dG_ _ (by simp only [maxLen];decide) _).mono ?_;rintro e w5 ⟨A_O,c_O,rfl,hn,hB⟩;have hB:=b7_ hB;have HV_O:=hd_ (hn.less hz);have HN:=hd_ (HN.out.past hB);have HV_bl:=hd_ (HV_bl.out.past hB);have HV_x:=hd_ (HV_x.out.past hB);have HV_y:=hd_ (HV_y.out.past hB);have g0:=(hB.cell (p:=⟨w.heap.size+3,0,none⟩) (by simp;omega)).trans g0;have g1:=(hB.cell (p:=⟨w.heap.size+3,1,none⟩) (by simp;omega)).trans g1;have g2:=(hB.cell (p:=⟨w.heap.size+3,2,none⟩) (by simp;omega)).trans g2;have p0:=(hB.cell (p:=⟨w.heap.size+4,0,none⟩) (by simp;omega)).trans p0;have p1:=(hB.cell (p:=⟨w.heap.size+4,1,none⟩) (by simp;omega)).trans p1;have p2:=(hB.cell (p:=⟨w.heap.size+4,2,none⟩) (by simp;omega)).trans p2;have HB:=hd_ (HB.out.trans (hB.mono hz));have hz:=Nat.le_trans hz hB.size;have hlt:=Nat.lt_of_lt_of_le hlt hB.size;clear hn hB;have T0:=hd_ True.intro)
  | (go_at_call 105;(fail_if_success have z:=T1);have z:=T0;clear z;refine (cK_ _ _ _ _ _ _ _ HV_O.out.1 HV_y.out.1 (by (repeat (first|rw [aJ_]|rw [aO_]|rw [aX_]|rw [aL_]|rw [aE_]));omega)).mono ?_;rintro e w6 ⟨A_F,c_F,rfl,hn,hB⟩;have HV_F:=hd_ (hn.less hz);have HN:=hd_ (HN.out.past hB);have HV_bl:=hd_ (HV_bl.out.past hB);have HV_x:=hd_ (HV_x.out.past hB);have g0:=(hB.cell (p:=⟨w.heap.size+3,0,none⟩) (by simp;omega)).trans g0;have g1:=(hB.cell (p:=⟨w.heap.size+3,1,none⟩) (by simp;omega)).trans g1;have g2:=(hB.cell (p:=⟨w.heap.size+3,2,none⟩) (by simp;omega)).trans g2;have p0:=(hB.cell (p:=⟨w.heap.size+4,0,none⟩) (by simp;omega)).trans p0;have p1:=(hB.cell (p:=⟨w.heap.size+4,1,none⟩) (by simp;omega)).trans p1;have p2:=(hB.cell (p:=⟨w.heap.size+4,2,none⟩) (by simp;omega)).trans p2;have HB:=hd_ (HB.out.trans (hB.mono hz));have hz:=Nat.le_trans hz hB.size;have hlt:=Nat.lt_of_lt_of_le hlt hB.size;clear hn hB;have T1:=hd_ True.intro)
  | (go_at_call 105;(fail_if_success have z:=T2);have z:=T1;clear z;refine (cK_ _ _ _ _ _ _ _ HV_bl.out.1 HV_F.out.1 (by (repeat (first|rw [aJ_]|rw [aO_]|rw [aX_]|rw [aL_]|rw [aE_]));omega)).mono ?_;rintro e w7 ⟨A_G,c_G,rfl,hn,hB⟩;have HV_G:=hd_ (hn.less hz);have HN:=hd_ (HN.out.past hB);have HV_x:=hd_ (HV_x.out.past hB);have g0:=(hB.cell (p:=⟨w.heap.size+3,0,none⟩) (by simp;omega)).trans g0;have g1:=(hB.cell (p:=⟨w.heap.size+3,1,none⟩) (by simp;omega)).trans g1;have g2:=(hB.cell (p:=⟨w.heap.size+3,2,none⟩) (by simp;omega)).trans g2;have p0:=(hB.cell (p:=⟨w.heap.size+4,0,none⟩) (by simp;omega)).trans p0;have p1:=(hB.cell (p:=⟨w.heap.size+4,1,none⟩) (by simp;omega)).trans p1;have p2:=(hB.cell (p:=⟨w.heap.size+4,2,none⟩) (by simp;omega)).trans p2;have HB:=hd_ (HB.out.trans (hB.mono hz));have hz:=Nat.le_trans hz hB.size;have hlt:=Nat.lt_of_lt_of_le hlt hB.size;clear hn hB;have T2:=hd_ True.intro)
  | (go_at_call 104;(fail_if_success have z:=T3);have z:=T2;clear z;refine (kD_ _ _ _ _ HV_G.out.1 (by (repeat (first|rw [aJ_]|rw [aO_]|rw [aX_]|rw [aL_]|rw [aE_]));omega)).mono ?_;rintro e w8 ⟨A_H,c_H,rfl,hn,hB⟩;have HV_H:=hd_ (hn.less hz);have HN:=hd_ (HN.out.past hB);have HV_x:=hd_ (HV_x.out.past hB);have g0:=(hB.cell (p:=⟨w.heap.size+3,0,none⟩) (by simp;omega)).trans g0;have g1:=(hB.cell (p:=⟨w.heap.size+3,1,none⟩) (by simp;omega)).trans g1;have g2:=(hB.cell (p:=⟨w.heap.size+3,2,none⟩) (by simp;omega)).trans g2;have p0:=(hB.cell (p:=⟨w.heap.size+4,0,none⟩) (by simp;omega)).trans p0;have p1:=(hB.cell (p:=⟨w.heap.size+4,1,none⟩) (by simp;omega)).trans p1;have p2:=(hB.cell (p:=⟨w.heap.size+4,2,none⟩) (by simp;omega)).trans p2;have HB:=hd_ (HB.out.trans (hB.mono hz));have hz:=Nat.le_trans hz hB.size;have hlt:=Nat.lt_of_lt_of_le hlt hB.size;clear hn hB;have T3:=hd_ True.intro)
  | (go_at_call 105;(fail_if_success have z:=T4);have z:=T3;clear z;refine (cK_ _ _ _ _ _ _ _ HV_x.out.1 HV_H.out.1 (by (repeat (first|rw [aJ_]|rw [aO_]|rw [aX_]|rw [aL_]|rw [aE_]));omega)).mono ?_;rintro e w9 ⟨A_J,c_J,rfl,hn,hB⟩;have HV_J:=hd_ (hn.less hz);have HN:=hd_ (HN.out.past hB);have g0:=(hB.cell (p:=⟨w.heap.size+3,0,none⟩) (by simp;omega)).trans g0;have g1:=(hB.cell (p:=⟨w.heap.size+3,1,none⟩) (by simp;omega)).trans g1;have g2:=(hB.cell (p:=⟨w.heap.size+3,2,none⟩) (by simp;omega)).trans g2;have p0:=(hB.cell (p:=⟨w.heap.size+4,0,none⟩) (by simp;omega)).trans p0;have p1:=(hB.cell (p:=⟨w.heap.size+4,1,none⟩) (by simp;omega)).trans p1;have p2:=(hB.cell (p:=⟨w.heap.size+4,2,none⟩) (by simp;omega)).trans p2;have HB:=hd_ (HB.out.trans (hB.mono hz));have hz:=Nat.le_trans hz hB.size;have hlt:=Nat.lt_of_lt_of_le hlt hB.size;clear hn hB;have T4:=hd_ True.intro)
  | (go_at_call 104;(fail_if_success have z:=T5);have z:=T4;clear z;refine (jJ_ _ _ _ _ HV_J.out.1 (by (repeat (first|rw [aJ_]|rw [aO_]|rw [aX_]|rw [aL_]|rw [aE_]));omega)).mono ?_;rintro e w10 ⟨A_Q,c_Q,rfl,hn,hB⟩;have HV_Q:=hd_ (hn.less hz);have HN:=hd_ (HN.out.past hB);have g0:=(hB.cell (p:=⟨w.heap.size+3,0,none⟩) (by simp;omega)).trans g0;have g1:=(hB.cell (p:=⟨w.heap.size+3,1,none⟩) (by simp;omega)).trans g1;have g2:=(hB.cell (p:=⟨w.heap.size+3,2,none⟩) (by simp;omega)).trans g2;have p0:=(hB.cell (p:=⟨w.heap.size+4,0,none⟩) (by simp;omega)).trans p0;have p1:=(hB.cell (p:=⟨w.heap.size+4,1,none⟩) (by simp;omega)).trans p1;have p2:=(hB.cell (p:=⟨w.heap.size+4,2,none⟩) (by simp;omega)).trans p2;have HB:=hd_ (HB.out.trans (hB.mono hz));have hz:=Nat.le_trans hz hB.size;have hlt:=Nat.lt_of_lt_of_le hlt hB.size;clear hn hB;have T5:=hd_ True.intro))
 go_wp2
 go_ret
 exact ⟨A_Q,c_Q,rfl,HV_Q.out,HB.out⟩):P:=h
theorem akC_ {A:Option Addr} {c:Nat} {l:List Nd} {i:Nat} {t:ByteArray} {n:Int} {w:World} (hN:Nds w w.heap.size A l) (hi:i<l.length) (hnd:l[i]=Nd.mk 5 t n) (h40:l.length<=40) {x y:List Nd} {z:Nat} (hx:x.length<=1000) (hy0:y.length<=1000) (HKx:Hid (∀ w',Nds w' w'.heap.size A l->Calls Tryz.prog 103 #[.slice A l.length c,.int .i64 (i:Nat),.int .i64 ((i:Int)+1),.bool false] w' (d4_ x w'))) (HKy:Hid (∀ w',Nds w' w'.heap.size A l->Calls Tryz.prog 103 #[.slice A l.length c,.int .i64 (i:Nat),.int .i64 (z:Nat),.bool true] w' (d4_ y w'))) (HE:Hid (∀ w',Nds w' w'.heap.size A l->Calls Tryz.prog 61 #[.slice A l.length c,.int .i64 ((i:Int)+1)] w' (Ret w' (.int .i64 (z:Nat))))) :
  Calls Tryz.prog 62 #[.slice A l.length c,.int .i64 (i:Nat)] w (d4_ (i4_ ⟨#[43,32]⟩ x y) w):=by
 rw [i4_]
 obtain ⟨b,off,op,t',n',rfl,hb,hnd',hts,d1,d2,d3⟩:=hN.node (Below.refl _ _) hi
 rw [hnd] at hnd'
 cases hnd'
 have HR:=hd_ (h6_ 5 t n w hN)
 have k1:IntKind.i64.wrap ((i:Int)+1)=(i:Int)+1:=IntWalk.i64_in _ (by omega)
 clear hN hnd
 go_enter Tryz.func62,Tryz.ntmps62
 go_upto_region 6 with (fail)
 refine eZ_ (fun wy=>RfN (some ⟨b,off,none⟩) l 5 t n w wy) HR.out ?_
 exact lq78
theorem akD_ {A:Option Addr} {c:Nat} {l:List Nd} {i:Nat} {t:ByteArray} {n:Int} {w:World} (hN:Nds w w.heap.size A l) (hi:i<l.length) (hnd:l[i]=Nd.mk 6 t n) (h40:l.length<=40) {x y:List Nd} {z:Nat} (hx:x.length<=1000) (hy0:y.length<=1000) (HKx:Hid (∀ w',Nds w' w'.heap.size A l->Calls Tryz.prog 103 #[.slice A l.length c,.int .i64 (i:Nat),.int .i64 ((i:Int)+1),.bool false] w' (d4_ x w'))) (HKy:Hid (∀ w',Nds w' w'.heap.size A l->Calls Tryz.prog 103 #[.slice A l.length c,.int .i64 (i:Nat),.int .i64 (z:Nat),.bool true] w' (d4_ y w'))) (HE:Hid (∀ w',Nds w' w'.heap.size A l->Calls Tryz.prog 61 #[.slice A l.length c,.int .i64 ((i:Int)+1)] w' (Ret w' (.int .i64 (z:Nat))))) :
  Calls Tryz.prog 62 #[.slice A l.length c,.int .i64 (i:Nat)] w (d4_ (i4_ ⟨#[42,32]⟩ x y) w):=by
 rw [i4_]
 obtain ⟨b,off,op,t',n',rfl,hb,hnd',hts,d1,d2,d3⟩:=hN.node (Below.refl _ _) hi
 rw [hnd] at hnd'
 cases hnd'
 have HR:=hd_ (h6_ 6 t n w hN)
 have k1:IntKind.i64.wrap ((i:Int)+1)=(i:Int)+1:=IntWalk.i64_in _ (by omega)
 clear hN hnd
 go_enter Tryz.func62,Tryz.ntmps62
 go_upto_region 6 with (fail)
 refine eZ_ (fun wy=>RfN (some ⟨b,off,none⟩) l 6 t n w wy) HR.out ?_
 exact lq78
theorem akE_ {A:Option Addr} {c:Nat} {l:List Nd} {i:Nat} {t:ByteArray} {n:Int} {w:World} (hN:Nds w w.heap.size A l) (hi:i<l.length) (hnd:l[i]=Nd.mk 7 t n) (h40:l.length<=40) (ht8:t.size<=8) {d:List Nd} (hdl:d.length<=900) (HD:Hid (∀ w',Nds w' w'.heap.size A l->Calls Tryz.prog 62 #[.slice A l.length c,.int .i64 ((i:Int)+1)] w' (d4_ d w'))) :
  Calls Tryz.prog 62 #[.slice A l.length c,.int .i64 (i:Nat)] w (d4_ (bZ_ (aQ_ (aV_ (⟨#[108,101,116,32]⟩++t++⟨#[32,61]⟩)) (d7_ (aQ_ (opN 2) (aQ_ d (aV_ ⟨#[59]⟩)))))) w):=by
 have hsz:(⟨#[108,101,116,32]⟩++t++⟨#[32,61]⟩:ByteArray).size<=maxLen:=by
  simp only [ByteArray.size_append,maxLen]
  show 4+t.size+2<=_
  omega
 have HSZ:=hd_ hsz
 clear hsz
 have hcat0:∀ w',(Op.stringOp .add ⟨#[108,101,116,32]⟩ t).run Tryz.prog w'=.ok (.string (⟨#[108,101,116,32]⟩++t)) w':=fun w'=>run_string_add_sum w' _ t (by show 4+t.size<=_;omega)
 have hcat1:∀ w',(Op.stringOp .add (⟨#[108,101,116,32]⟩++t) ⟨#[32,61]⟩).run Tryz.prog w'=.ok (.string (⟨#[108,101,116,32]⟩++t++⟨#[32,61]⟩)) w':=fun w'=>run_string_add_sum w' _ _ (by rw [ByteArray.size_append];show 4+t.size+2<=_;omega)
 obtain ⟨b,off,op,t',n',rfl,hb,hnd',hts,d1,d2,d3⟩:=hN.node (Below.refl _ _) hi
 rw [hnd] at hnd'
 cases hnd'
 have HR:=hd_ (h6_ 7 t n w hN)
 have k1:IntKind.i64.wrap ((i:Int)+1)=(i:Int)+1:=IntWalk.i64_in _ (by omega)
 clear hN hnd
 go_enter Tryz.func62,Tryz.ntmps62
 go_upto_region 6 with (fail)
 refine eZ_ (fun wy=>RfN (some ⟨b,off,none⟩) l 7 t n w wy) HR.out ?_
 clear HR d1 d2 d3
 rintro w1 hy
 obtain ⟨⟨y0,y1,y2⟩,⟨g0,g1,g2⟩,⟨p0,p1,p2⟩⟩:=hy.cells
 have HV_bl:=hd_ hy.bl;have HV_so:=hd_ hy.so;have HN:=hd_ hy.nds;have HB:=hd_ hy.bel;have hz:=hy.bel.size
 have hlt:w.heap.size+4<w1.heap.size:=(Array.getElem?_eq_some_iff.1 hy.dp).1
 have hob:(opN 2).length=1:=rfl
 have hos:(opN 3).length=1:=rfl
 clear hy
 go_wp2_with (first
  | (go_at_call 62;(fail_if_success have z:=S0);refine (HD.out _ HN.out).mono ?_;rintro e w2 ⟨A_d,c_d,rfl,hn,hB⟩;have HV_bl:=hd_ (HV_bl.out.past hB);have HV_d:=hd_ (hn.less hz);have HN:=hd_ (HN.out.past hB);have y0:=(hB.cell (p:=⟨w.heap.size,0,none⟩) (by simp;omega)).trans y0;have y1:=(hB.cell (p:=⟨w.heap.size,1,none⟩) (by simp;omega)).trans y1;have y2:=(hB.cell (p:=⟨w.heap.size,2,none⟩) (by simp;omega)).trans y2;have g0:=(hB.cell (p:=⟨w.heap.size+3,0,none⟩) (by simp;omega)).trans g0;have g1:=(hB.cell (p:=⟨w.heap.size+3,1,none⟩) (by simp;omega)).trans g1;have g2:=(hB.cell (p:=⟨w.heap.size+3,2,none⟩) (by simp;omega)).trans g2;have p0:=(hB.cell (p:=⟨w.heap.size+4,0,none⟩) (by simp;omega)).trans p0;have p1:=(hB.cell (p:=⟨w.heap.size+4,1,none⟩) (by simp;omega)).trans p1;have p2:=(hB.cell (p:=⟨w.heap.size+4,2,none⟩) (by simp;omega)).trans p2;have HB:=hd_ (HB.out.trans (hB.mono hz));have hz:=Nat.le_trans hz hB.size;have hlt:=Nat.lt_of_lt_of_le hlt hB.size;clear hn hB;have S0:=hd_ True.intro)
  | (go_at_call 101;(fail_if_success have z:=S1);have z:=S0;clear z;refine (dG_ ⟨#[59]⟩ (by decide) _).mono ?_;rintro e w3 ⟨A_W,c_W,rfl,hn,hB⟩;have HV_bl:=hd_ (HV_bl.out.past hB);have HV_W:=hd_ (hn.less hz);have HN:=hd_ (HN.out.past hB);have HV_d:=hd_ (HV_d.out.past hB);have y0:=(hB.cell (p:=⟨w.heap.size,0,none⟩) (by simp;omega)).trans y0;have y1:=(hB.cell (p:=⟨w.heap.size,1,none⟩) (by simp;omega)).trans y1;have y2:=(hB.cell (p:=⟨w.heap.size,2,none⟩) (by simp;omega)).trans y2;have g0:=(hB.cell (p:=⟨w.heap.size+3,0,none⟩) (by simp;omega)).trans g0;have g1:=(hB.cell (p:=⟨w.heap.size+3,1,none⟩) (by simp;omega)).trans g1;have g2:=(hB.cell (p:=⟨w.heap.size+3,2,none⟩) (by simp;omega)).trans g2;have p0:=(hB.cell (p:=⟨w.heap.size+4,0,none⟩) (by simp;omega)).trans p0;have p1:=(hB.cell (p:=⟨w.heap.size+4,1,none⟩) (by simp;omega)).trans p1;have p2:=(hB.cell (p:=⟨w.heap.size+4,2,none⟩) (by simp;omega)).trans p2;have HB:=hd_ (HB.out.trans (hB.mono hz));have hz:=Nat.le_trans hz hB.size;have hlt:=Nat.lt_of_lt_of_le hlt hB.size;clear hn hB;have S1:=hd_ True.intro)
  | (go_at_call 105;(fail_if_success have z:=S2);have z:=S1;clear z;refine (cK_ _ _ _ _ _ _ _ HV_d.out.1 HV_W.out.1 (by (repeat (first|rw [aJ_]|rw [aO_]|rw [aX_]|rw [aL_]|rw [aE_]));omega)).mono ?_;rintro e w4 ⟨A_X,c_X,rfl,hn,hB⟩;have HV_bl:=hd_ (HV_bl.out.past hB);have HV_X:=hd_ (hn.less hz);have HN:=hd_ (HN.out.past hB);have y0:=(hB.cell (p:=⟨w.heap.size,0,none⟩) (by simp;omega)).trans y0;have y1:=(hB.cell (p:=⟨w.heap.size,1,none⟩) (by simp;omega)).trans y1;have y2:=(hB.cell (p:=⟨w.heap.size,2,none⟩) (by simp;omega)).trans y2;have g0:=(hB.cell (p:=⟨w.heap.size+3,0,none⟩) (by simp;omega)).trans g0;have g1:=(hB.cell (p:=⟨w.heap.size+3,1,none⟩) (by simp;omega)).trans g1;have g2:=(hB.cell (p:=⟨w.heap.size+3,2,none⟩) (by simp;omega)).trans g2;have p0:=(hB.cell (p:=⟨w.heap.size+4,0,none⟩) (by simp;omega)).trans p0;have p1:=(hB.cell (p:=⟨w.heap.size+4,1,none⟩) (by simp;omega)).trans p1;have p2:=(hB.cell (p:=⟨w.heap.size+4,2,none⟩) (by simp;omega)).trans p2;have HB:=hd_ (HB.out.trans (hB.mono hz));have hz:=Nat.le_trans hz hB.size;have hlt:=Nat.lt_of_lt_of_le hlt hB.size;clear hn hB;have S2:=hd_ True.intro))
 go_region_held3 (fun w'=>w'.cell? ⟨w.heap.size,0,none⟩=some (.int .i64 7)/\w'.cell? ⟨w.heap.size,1,none⟩=some (.string t)/\w'.cell? ⟨w.heap.size,2,none⟩=some (.int .i64 n)/\w'.cell? ⟨w.heap.size+3,0,none⟩=some (.int .i64 8)/\w'.cell? ⟨w.heap.size+3,1,none⟩=some (.string .empty)/\w'.cell? ⟨w.heap.size+3,2,none⟩=some (.int .i64 0)/\w'.cell? ⟨w.heap.size+4,0,none⟩=some (.int .i64 7)/\w'.cell? ⟨w.heap.size+4,1,none⟩=some (.string .empty)/\w'.cell? ⟨w.heap.size+4,2,none⟩=some (.int .i64 2))
  (exact ⟨y0,y1,y2,g0,g1,g2,p0,p1,p2⟩)
  (first
  | (go_at_call 101;(fail_if_success have z:=T0);refine (dG_ _ HSZ.out _).mono ?_;rintro e w5 ⟨A_O,c_O,rfl,hn,hB⟩;have hB:=b7_ hB;have HV_O:=hd_ (hn.less hz);have HN:=hd_ (HN.out.past hB);have HV_bl:=hd_ (HV_bl.out.past hB);have HV_X:=hd_ (HV_X.out.past hB);have y0:=(hB.cell (p:=⟨w.heap.size,0,none⟩) (by simp;omega)).trans y0;have y1:=(hB.cell (p:=⟨w.heap.size,1,none⟩) (by simp;omega)).trans y1;have y2:=(hB.cell (p:=⟨w.heap.size,2,none⟩) (by simp;omega)).trans y2;have g0:=(hB.cell (p:=⟨w.heap.size+3,0,none⟩) (by simp;omega)).trans g0;have g1:=(hB.cell (p:=⟨w.heap.size+3,1,none⟩) (by simp;omega)).trans g1;have g2:=(hB.cell (p:=⟨w.heap.size+3,2,none⟩) (by simp;omega)).trans g2;have p0:=(hB.cell (p:=⟨w.heap.size+4,0,none⟩) (by simp;omega)).trans p0;have p1:=(hB.cell (p:=⟨w.heap.size+4,1,none⟩) (by simp;omega)).trans p1;have p2:=(hB.cell (p:=⟨w.heap.size+4,2,none⟩) (by simp;omega)).trans p2;have HB:=hd_ (HB.out.trans (hB.mono hz));have hz:=Nat.le_trans hz hB.size;have hlt:=Nat.lt_of_lt_of_le hlt hB.size;clear hn hB;have T0:=hd_ True.intro)
  | (go_at_call 105;(fail_if_success have z:=T1);have z:=T0;clear z;refine (cK_ _ _ _ _ _ _ _ HV_bl.out.1 HV_X.out.1 (by (repeat (first|rw [aJ_]|rw [aO_]|rw [aX_]|rw [aL_]|rw [aE_]));omega)).mono ?_;rintro e w6 ⟨A_F,c_F,rfl,hn,hB⟩;have HV_F:=hd_ (hn.less hz);have HN:=hd_ (HN.out.past hB);have HV_O:=hd_ (HV_O.out.past hB);have y0:=(hB.cell (p:=⟨w.heap.size,0,none⟩) (by simp;omega)).trans y0;have y1:=(hB.cell (p:=⟨w.heap.size,1,none⟩) (by simp;omega)).trans y1;have y2:=(hB.cell (p:=⟨w.heap.size,2,none⟩) (by simp;omega)).trans y2;have g0:=(hB.cell (p:=⟨w.heap.size+3,0,none⟩) (by simp;omega)).trans g0;have g1:=(hB.cell (p:=⟨w.heap.size+3,1,none⟩) (by simp;omega)).trans g1;have g2:=(hB.cell (p:=⟨w.heap.size+3,2,none⟩) (by simp;omega)).trans g2;have p0:=(hB.cell (p:=⟨w.heap.size+4,0,none⟩) (by simp;omega)).trans p0;have p1:=(hB.cell (p:=⟨w.heap.size+4,1,none⟩) (by simp;omega)).trans p1;have p2:=(hB.cell (p:=⟨w.heap.size+4,2,none⟩) (by simp;omega)).trans p2;have HB:=hd_ (HB.out.trans (hB.mono hz));have hz:=Nat.le_trans hz hB.size;have hlt:=Nat.lt_of_lt_of_le hlt hB.size;clear hn hB;have T1:=hd_ True.intro)
  | (go_at_call 104;(fail_if_success have z:=T2);have z:=T1;clear z;refine (kD_ _ _ _ _ HV_F.out.1 (by (repeat (first|rw [aJ_]|rw [aO_]|rw [aX_]|rw [aL_]|rw [aE_]));omega)).mono ?_;rintro e w7 ⟨A_G,c_G,rfl,hn,hB⟩;have HV_G:=hd_ (hn.less hz);have HN:=hd_ (HN.out.past hB);have HV_O:=hd_ (HV_O.out.past hB);have y0:=(hB.cell (p:=⟨w.heap.size,0,none⟩) (by simp;omega)).trans y0;have y1:=(hB.cell (p:=⟨w.heap.size,1,none⟩) (by simp;omega)).trans y1;have y2:=(hB.cell (p:=⟨w.heap.size,2,none⟩) (by simp;omega)).trans y2;have g0:=(hB.cell (p:=⟨w.heap.size+3,0,none⟩) (by simp;omega)).trans g0;have g1:=(hB.cell (p:=⟨w.heap.size+3,1,none⟩) (by simp;omega)).trans g1;have g2:=(hB.cell (p:=⟨w.heap.size+3,2,none⟩) (by simp;omega)).trans g2;have p0:=(hB.cell (p:=⟨w.heap.size+4,0,none⟩) (by simp;omega)).trans p0;have p1:=(hB.cell (p:=⟨w.heap.size+4,1,none⟩) (by simp;omega)).trans p1;have p2:=(hB.cell (p:=⟨w.heap.size+4,2,none⟩) (by simp;omega)).trans p2;have HB:=hd_ (HB.out.trans (hB.mono hz));have hz:=Nat.le_trans hz hB.size;have hlt:=Nat.lt_of_lt_of_le hlt hB.size;clear hn hB;have T2:=hd_ True.intro)
  | (go_at_call 105;(fail_if_success have z:=T3);have z:=T2;clear z;refine (cK_ _ _ _ _ _ _ _ HV_O.out.1 HV_G.out.1 (by (repeat (first|rw [aJ_]|rw [aO_]|rw [aX_]|rw [aL_]|rw [aE_]));omega)).mono ?_;rintro e w8 ⟨A_J,c_J,rfl,hn,hB⟩;have HV_J:=hd_ (hn.less hz);have HN:=hd_ (HN.out.past hB);have y0:=(hB.cell (p:=⟨w.heap.size,0,none⟩) (by simp;omega)).trans y0;have y1:=(hB.cell (p:=⟨w.heap.size,1,none⟩) (by simp;omega)).trans y1;have y2:=(hB.cell (p:=⟨w.heap.size,2,none⟩) (by simp;omega)).trans y2;have g0:=(hB.cell (p:=⟨w.heap.size+3,0,none⟩) (by simp;omega)).trans g0;have g1:=(hB.cell (p:=⟨w.heap.size+3,1,none⟩) (by simp;omega)).trans g1;have g2:=(hB.cell (p:=⟨w.heap.size+3,2,none⟩) (by simp;omega)).trans g2;have p0:=(hB.cell (p:=⟨w.heap.size+4,0,none⟩) (by simp;omega)).trans p0;have p1:=(hB.cell (p:=⟨w.heap.size+4,1,none⟩) (by simp;omega)).trans p1;have p2:=(hB.cell (p:=⟨w.heap.size+4,2,none⟩) (by simp;omega)).trans p2;have HB:=hd_ (HB.out.trans (hB.mono hz));have hz:=Nat.le_trans hz hB.size;have hlt:=Nat.lt_of_lt_of_le hlt hB.size;clear hn hB;have T3:=hd_ True.intro)
  | (go_at_call 104;(fail_if_success have z:=T4);have z:=T3;clear z;refine (jJ_ _ _ _ _ HV_J.out.1 (by (repeat (first|rw [aJ_]|rw [aO_]|rw [aX_]|rw [aL_]|rw [aE_]));omega)).mono ?_;rintro e w9 ⟨A_Q,c_Q,rfl,hn,hB⟩;have HV_Q:=hd_ (hn.less hz);have HN:=hd_ (HN.out.past hB);have y0:=(hB.cell (p:=⟨w.heap.size,0,none⟩) (by simp;omega)).trans y0;have y1:=(hB.cell (p:=⟨w.heap.size,1,none⟩) (by simp;omega)).trans y1;have y2:=(hB.cell (p:=⟨w.heap.size,2,none⟩) (by simp;omega)).trans y2;have g0:=(hB.cell (p:=⟨w.heap.size+3,0,none⟩) (by simp;omega)).trans g0;have g1:=(hB.cell (p:=⟨w.heap.size+3,1,none⟩) (by simp;omega)).trans g1;have g2:=(hB.cell (p:=⟨w.heap.size+3,2,none⟩) (by simp;omega)).trans g2;have p0:=(hB.cell (p:=⟨w.heap.size+4,0,none⟩) (by simp;omega)).trans p0;have p1:=(hB.cell (p:=⟨w.heap.size+4,1,none⟩) (by simp;omega)).trans p1;have p2:=(hB.cell (p:=⟨w.heap.size+4,2,none⟩) (by simp;omega)).trans p2;have HB:=hd_ (HB.out.trans (hB.mono hz));have hz:=Nat.le_trans hz hB.size;have hlt:=Nat.lt_of_lt_of_le hlt hB.size;clear hn hB;have T4:=hd_ True.intro))
 go_wp2
 go_ret
 exact ⟨A_Q,c_Q,rfl,HV_Q.out,HB.out⟩
theorem akF_ {A:Option Addr} {c:Nat} {l:List Nd} {i:Nat} {t:ByteArray} {n:Int} {w:World} (hN:Nds w w.heap.size A l) (hi:i<l.length) (hnd:l[i]=Nd.mk 8 t n) (h40:l.length<=40) {d:List Nd} (hdl:d.length<=900) (HD:Hid (∀ w',Nds w' w'.heap.size A l->Calls Tryz.prog 62 #[.slice A l.length c,.int .i64 ((i:Int)+1)] w' (d4_ d w'))) :
  Calls Tryz.prog 62 #[.slice A l.length c,.int .i64 (i:Nat)] w (d4_ (aQ_ d (aV_ ⟨#[59]⟩)) w):=by
 obtain ⟨b,off,op,t',n',rfl,hb,hnd',hts,d1,d2,d3⟩:=hN.node (Below.refl _ _) hi
 rw [hnd] at hnd'
 cases hnd'
 have HR:=hd_ (h6_ 8 t n w hN)
 have k1:IntKind.i64.wrap ((i:Int)+1)=(i:Int)+1:=IntWalk.i64_in _ (by omega)
 clear hN hnd
 go_enter Tryz.func62,Tryz.ntmps62
 go_upto_region 6 with (fail)
 refine eZ_ (fun wy=>RfN (some ⟨b,off,none⟩) l 8 t n w wy) HR.out ?_
 clear HR d1 d2 d3
 rintro w1 hy
 obtain ⟨⟨y0,y1,y2⟩,⟨g0,g1,g2⟩,⟨p0,p1,p2⟩⟩:=hy.cells
 have HV_bl:=hd_ hy.bl;have HV_so:=hd_ hy.so;have HN:=hd_ hy.nds;have HB:=hd_ hy.bel;have hz:=hy.bel.size
 have hlt:w.heap.size+4<w1.heap.size:=(Array.getElem?_eq_some_iff.1 hy.dp).1
 have hob:(opN 2).length=1:=rfl
 have hos:(opN 3).length=1:=rfl
 clear hy
 go_wp2_with (first
  | (go_at_call 62;(fail_if_success have z:=S0);refine (HD.out _ HN.out).mono ?_;rintro e w2 ⟨A_d,c_d,rfl,hn,hB⟩;have HV_d:=hd_ (hn.less hz);have HN:=hd_ (HN.out.past hB);have HB:=hd_ (HB.out.trans (hB.mono hz));have hz:=Nat.le_trans hz hB.size;clear hn hB;have S0:=hd_ True.intro)
  | (go_at_call 101;(fail_if_success have z:=S1);have z:=S0;clear z;refine (dG_ ⟨#[59]⟩ (by decide) _).mono ?_;rintro e w3 ⟨A_W,c_W,rfl,hn,hB⟩;have HV_W:=hd_ (hn.less hz);have HN:=hd_ (HN.out.past hB);have HV_d:=hd_ (HV_d.out.past hB);have HB:=hd_ (HB.out.trans (hB.mono hz));have hz:=Nat.le_trans hz hB.size;clear hn hB;have S1:=hd_ True.intro)
  | (go_at_call 105;(fail_if_success have z:=S2);have z:=S1;clear z;refine (cK_ _ _ _ _ _ _ _ HV_d.out.1 HV_W.out.1 (by (repeat (first|rw [aJ_]|rw [aO_]|rw [aX_]|rw [aL_]|rw [aE_]));omega)).mono ?_;rintro e w4 ⟨A_Q,c_Q,rfl,hn,hB⟩;have HV_Q:=hd_ (hn.less hz);have HN:=hd_ (HN.out.past hB);have HB:=hd_ (HB.out.trans (hB.mono hz));have hz:=Nat.le_trans hz hB.size;clear hn hB;have S2:=hd_ True.intro))
 go_ret
 exact ⟨A_Q,c_Q,rfl,HV_Q.out,HB.out⟩
theorem lq80 {P:Prop} (h:P:=by
 clear HR d1 d2 d3
 rintro w1 hy
 obtain ⟨⟨y0,y1,y2⟩,⟨g0,g1,g2⟩,⟨p0,p1,p2⟩⟩:=hy.cells
 have HV_bl:=hd_ hy.bl;have HV_so:=hd_ hy.so;have HN:=hd_ hy.nds;have HB:=hd_ hy.bel;have hz:=hy.bel.size
 have hlt:w.heap.size+4<w1.heap.size:=(Array.getElem?_eq_some_iff.1 hy.dp).1
 have hob:(opN 2).length=1:=rfl
 have hos:(opN 3).length=1:=rfl
 clear hy
 go_wp2_with (go_at_call 101;refine (dG_ _ HSZ.out _).mono ?_;rintro e w4 ⟨A_Q,c_Q,rfl,hn,hB⟩;have HV_Q:=hd_ (hn.less hz);have HB:=hd_ (HB.out.trans (hB.mono hz));clear hn hB)
 go_ret
 exact ⟨A_Q,c_Q,rfl,HV_Q.out,HB.out⟩):P:=h
theorem ah9_ {A:Option Addr} {c:Nat} {l:List Nd} {i:Nat} {t:ByteArray} {n:Int} {w:World} (hN:Nds w w.heap.size A l) (hi:i<l.length) (hnd:l[i]=Nd.mk 3 t n) (h40:l.length<=40) (ht8:t.size<=8) (hn0:n=0) :
  Calls Tryz.prog 62 #[.slice A l.length c,.int .i64 (i:Nat)] w (d4_ (aV_ ((t++⟨#[40]⟩)++⟨#[41]⟩)) w):=by
 subst hn0
 have hsz:((t++⟨#[40]⟩)++⟨#[41]⟩:ByteArray).size<=maxLen:=by
  simp only [ByteArray.size_append,maxLen]
  show t.size+1+1<=_
  omega
 have HSZ:=hd_ hsz
 clear hsz
 obtain ⟨b,off,op,t',n',rfl,hb,hnd',hts,d1,d2,d3⟩:=hN.node (Below.refl _ _) hi
 rw [hnd] at hnd'
 cases hnd'
 have HR:=hd_ (h6_ 3 t 0 w hN)
 have k1:IntKind.i64.wrap ((i:Int)+1)=(i:Int)+1:=IntWalk.i64_in _ (by omega)
 clear hN hnd
 go_enter Tryz.func62,Tryz.ntmps62
 go_upto_region 6 with (fail)
 refine eZ_ (fun wy=>RfN (some ⟨b,off,none⟩) l 3 t 0 w wy) HR.out ?_
 exact lq80
theorem ahA_ {A:Option Addr} {c:Nat} {l:List Nd} {i:Nat} {t:ByteArray} {n:Int} {w:World} (hN:Nds w w.heap.size A l) (hi:i<l.length) (hnd:l[i]=Nd.mk 3 t n) (h40:l.length<=40) (ht8:t.size<=8) (hn1:1<=n) (hn6:n<=6) {K:List Nd} (hK:K.length<=900) (HK:Hid (∀ w',Nds w' w'.heap.size A l->Calls Tryz.prog 106 #[.slice A l.length c,.int .i64 ((i:Int)+1),.int .i64 n] w' (d4_ K w'))) :
  Calls Tryz.prog 62 #[.slice A l.length c,.int .i64 (i:Nat)] w (d4_ (bZ_ (aQ_ (aV_ (t++⟨#[40]⟩)) (aQ_ (d7_ (aQ_ (opN 3) K)) (aQ_ (opN 3) (aV_ ⟨#[41]⟩))))) w):=by
 have hn0:(n==0)=false:=by simp;omega
 have hsz:((t++⟨#[40]⟩):ByteArray).size<=maxLen:=(by rw [ByteArray.size_append];simp only [maxLen];show t.size+1<=_;omega)
 have HSZ:=hd_ hsz
 clear hsz
 obtain ⟨b,off,op,t',n',rfl,hb,hnd',hts,d1,d2,d3⟩:=hN.node (Below.refl _ _) hi
 rw [hnd] at hnd'
 cases hnd'
 have HR:=hd_ (h6_ 3 t n w hN)
 have k1:IntKind.i64.wrap ((i:Int)+1)=(i:Int)+1:=IntWalk.i64_in _ (by omega)
 clear hN hnd
 go_enter Tryz.func62,Tryz.ntmps62
 go_upto_region 6 with (fail)
 refine eZ_ (fun wy=>RfN (some ⟨b,off,none⟩) l 3 t n w wy) HR.out ?_
 clear HR d1 d2 d3
 rintro w1 hy
 obtain ⟨⟨y0,y1,y2⟩,⟨g0,g1,g2⟩,⟨p0,p1,p2⟩⟩:=hy.cells
 have HV_bl:=hd_ hy.bl;have HV_so:=hd_ hy.so;have HN:=hd_ hy.nds;have HB:=hd_ hy.bel;have hz:=hy.bel.size
 have hlt:w.heap.size+4<w1.heap.size:=(Array.getElem?_eq_some_iff.1 hy.dp).1
 have hob:(opN 2).length=1:=rfl
 have hos:(opN 3).length=1:=rfl
 clear hy
 go_wp2_with fail
 go_region_held3 (fun w'=>w'.cell? ⟨w.heap.size,0,none⟩=some (.int .i64 3)/\w'.cell? ⟨w.heap.size,1,none⟩=some (.string t)/\w'.cell? ⟨w.heap.size,2,none⟩=some (.int .i64 n)/\w'.cell? ⟨w.heap.size+4,0,none⟩=some (.int .i64 7)/\w'.cell? ⟨w.heap.size+4,1,none⟩=some (.string .empty)/\w'.cell? ⟨w.heap.size+4,2,none⟩=some (.int .i64 2))
  (exact ⟨y0,y1,y2,p0,p1,p2⟩)
  (first
  | (go_at_call 106;(fail_if_success have z:=S0);refine (HK.out _ (HN.out.past (Below.refl _ _).drew)).mono ?_;rintro e w2 ⟨A_K,c_K,rfl,hn,hB⟩;have hB:=b7_ hB;have HV_K:=hd_ (hn.less hz);have HN:=hd_ (HN.out.past hB);have HV_so:=hd_ (HV_so.out.past hB);have y0:=(hB.cell (p:=⟨w.heap.size,0,none⟩) (by simp;omega)).trans y0;have y1:=(hB.cell (p:=⟨w.heap.size,1,none⟩) (by simp;omega)).trans y1;have y2:=(hB.cell (p:=⟨w.heap.size,2,none⟩) (by simp;omega)).trans y2;have g0:=(hB.cell (p:=⟨w.heap.size+3,0,none⟩) (by simp;omega)).trans g0;have g1:=(hB.cell (p:=⟨w.heap.size+3,1,none⟩) (by simp;omega)).trans g1;have g2:=(hB.cell (p:=⟨w.heap.size+3,2,none⟩) (by simp;omega)).trans g2;have p0:=(hB.cell (p:=⟨w.heap.size+4,0,none⟩) (by simp;omega)).trans p0;have p1:=(hB.cell (p:=⟨w.heap.size+4,1,none⟩) (by simp;omega)).trans p1;have p2:=(hB.cell (p:=⟨w.heap.size+4,2,none⟩) (by simp;omega)).trans p2;have HB:=hd_ (HB.out.trans (hB.mono hz));have hz:=Nat.le_trans hz hB.size;have hlt:=Nat.lt_of_lt_of_le hlt hB.size;clear hn hB;have S0:=hd_ True.intro)
  | (go_at_call 105;(fail_if_success have z:=S1);have z:=S0;clear z;refine (cK_ _ _ _ _ _ _ _ HV_so.out.1 HV_K.out.1 (by (repeat (first|rw [aJ_]|rw [aO_]|rw [aX_]|rw [aL_]|rw [aE_]));omega)).mono ?_;rintro e w3 ⟨A_F,c_F,rfl,hn,hB⟩;have HV_F:=hd_ (hn.less hz);have HV_so:=hd_ (HV_so.out.past hB);have HN:=hd_ (HN.out.past hB);have y0:=(hB.cell (p:=⟨w.heap.size,0,none⟩) (by simp;omega)).trans y0;have y1:=(hB.cell (p:=⟨w.heap.size,1,none⟩) (by simp;omega)).trans y1;have y2:=(hB.cell (p:=⟨w.heap.size,2,none⟩) (by simp;omega)).trans y2;have g0:=(hB.cell (p:=⟨w.heap.size+3,0,none⟩) (by simp;omega)).trans g0;have g1:=(hB.cell (p:=⟨w.heap.size+3,1,none⟩) (by simp;omega)).trans g1;have g2:=(hB.cell (p:=⟨w.heap.size+3,2,none⟩) (by simp;omega)).trans g2;have p0:=(hB.cell (p:=⟨w.heap.size+4,0,none⟩) (by simp;omega)).trans p0;have p1:=(hB.cell (p:=⟨w.heap.size+4,1,none⟩) (by simp;omega)).trans p1;have p2:=(hB.cell (p:=⟨w.heap.size+4,2,none⟩) (by simp;omega)).trans p2;have HB:=hd_ (HB.out.trans (hB.mono hz));have hz:=Nat.le_trans hz hB.size;have hlt:=Nat.lt_of_lt_of_le hlt hB.size;clear hn hB;have S1:=hd_ True.intro)
  | (go_at_call 104;(fail_if_success have z:=S2);have z:=S1;clear z;refine (kD_ _ _ _ _ HV_F.out.1 (by (repeat (first|rw [aJ_]|rw [aO_]|rw [aX_]|rw [aL_]|rw [aE_]));omega)).mono ?_;rintro e w4 ⟨A_G,c_G,rfl,hn,hB⟩;have HV_G:=hd_ (hn.less hz);have HV_so:=hd_ (HV_so.out.past hB);have HN:=hd_ (HN.out.past hB);have y0:=(hB.cell (p:=⟨w.heap.size,0,none⟩) (by simp;omega)).trans y0;have y1:=(hB.cell (p:=⟨w.heap.size,1,none⟩) (by simp;omega)).trans y1;have y2:=(hB.cell (p:=⟨w.heap.size,2,none⟩) (by simp;omega)).trans y2;have g0:=(hB.cell (p:=⟨w.heap.size+3,0,none⟩) (by simp;omega)).trans g0;have g1:=(hB.cell (p:=⟨w.heap.size+3,1,none⟩) (by simp;omega)).trans g1;have g2:=(hB.cell (p:=⟨w.heap.size+3,2,none⟩) (by simp;omega)).trans g2;have p0:=(hB.cell (p:=⟨w.heap.size+4,0,none⟩) (by simp;omega)).trans p0;have p1:=(hB.cell (p:=⟨w.heap.size+4,1,none⟩) (by simp;omega)).trans p1;have p2:=(hB.cell (p:=⟨w.heap.size+4,2,none⟩) (by simp;omega)).trans p2;have HB:=hd_ (HB.out.trans (hB.mono hz));have hz:=Nat.le_trans hz hB.size;have hlt:=Nat.lt_of_lt_of_le hlt hB.size;clear hn hB;have S2:=hd_ True.intro))
 go_wp2_with fail
 go_region_held3 (fun w'=>w'.cell? ⟨w.heap.size+3,0,none⟩=some (.int .i64 8)/\w'.cell? ⟨w.heap.size+3,1,none⟩=some (.string .empty)/\w'.cell? ⟨w.heap.size+3,2,none⟩=some (.int .i64 0))
  (exact ⟨g0,g1,g2⟩)
  (first
  | (go_at_call 101;(fail_if_success have z:=T0);refine (dG_ _ HSZ.out _).mono ?_;rintro e w6 ⟨A_O,c_O,rfl,hn,hB⟩;have hB:=b7_ hB;have HV_O:=hd_ (hn.less hz);have HN:=hd_ (HN.out.past hB);have HV_so:=hd_ (HV_so.out.past hB);have HV_G:=hd_ (HV_G.out.past hB);have g0:=(hB.cell (p:=⟨w.heap.size+3,0,none⟩) (by simp;omega)).trans g0;have g1:=(hB.cell (p:=⟨w.heap.size+3,1,none⟩) (by simp;omega)).trans g1;have g2:=(hB.cell (p:=⟨w.heap.size+3,2,none⟩) (by simp;omega)).trans g2;have HB:=hd_ (HB.out.trans (hB.mono hz));have hz:=Nat.le_trans hz hB.size;have hlt:=Nat.lt_of_lt_of_le hlt hB.size;clear hn hB;have T0:=hd_ True.intro)
  | (go_at_call 101;(fail_if_success have z:=T1);have z:=T0;clear z;refine (dG_ ⟨#[41]⟩ (by decide) _).mono ?_;rintro e w7 ⟨A_E,c_E,rfl,hn,hB⟩;have HV_E:=hd_ (hn.less hz);have HN:=hd_ (HN.out.past hB);have HV_so:=hd_ (HV_so.out.past hB);have HV_G:=hd_ (HV_G.out.past hB);have HV_O:=hd_ (HV_O.out.past hB);have g0:=(hB.cell (p:=⟨w.heap.size+3,0,none⟩) (by simp;omega)).trans g0;have g1:=(hB.cell (p:=⟨w.heap.size+3,1,none⟩) (by simp;omega)).trans g1;have g2:=(hB.cell (p:=⟨w.heap.size+3,2,none⟩) (by simp;omega)).trans g2;have HB:=hd_ (HB.out.trans (hB.mono hz));have hz:=Nat.le_trans hz hB.size;have hlt:=Nat.lt_of_lt_of_le hlt hB.size;clear hn hB;have T1:=hd_ True.intro)
  | (go_at_call 105;(fail_if_success have z:=T2);have z:=T1;clear z;refine (cK_ _ _ _ _ _ _ _ HV_so.out.1 HV_E.out.1 (by (repeat (first|rw [aJ_]|rw [aO_]|rw [aX_]|rw [aL_]|rw [aE_]));omega)).mono ?_;rintro e w8 ⟨A_H,c_H,rfl,hn,hB⟩;have HV_H:=hd_ (hn.less hz);have HN:=hd_ (HN.out.past hB);have HV_G:=hd_ (HV_G.out.past hB);have HV_O:=hd_ (HV_O.out.past hB);have g0:=(hB.cell (p:=⟨w.heap.size+3,0,none⟩) (by simp;omega)).trans g0;have g1:=(hB.cell (p:=⟨w.heap.size+3,1,none⟩) (by simp;omega)).trans g1;have g2:=(hB.cell (p:=⟨w.heap.size+3,2,none⟩) (by simp;omega)).trans g2;have HB:=hd_ (HB.out.trans (hB.mono hz));have hz:=Nat.le_trans hz hB.size;have hlt:=Nat.lt_of_lt_of_le hlt hB.size;clear hn hB;have T2:=hd_ True.intro)
  | (go_at_call 105;(fail_if_success have z:=T3);have z:=T2;clear z;refine (cK_ _ _ _ _ _ _ _ HV_G.out.1 HV_H.out.1 (by (repeat (first|rw [aJ_]|rw [aO_]|rw [aX_]|rw [aL_]|rw [aE_]));omega)).mono ?_;rintro e w9 ⟨A_I,c_I,rfl,hn,hB⟩;have HV_I:=hd_ (hn.less hz);have HN:=hd_ (HN.out.past hB);have HV_O:=hd_ (HV_O.out.past hB);have g0:=(hB.cell (p:=⟨w.heap.size+3,0,none⟩) (by simp;omega)).trans g0;have g1:=(hB.cell (p:=⟨w.heap.size+3,1,none⟩) (by simp;omega)).trans g1;have g2:=(hB.cell (p:=⟨w.heap.size+3,2,none⟩) (by simp;omega)).trans g2;have HB:=hd_ (HB.out.trans (hB.mono hz));have hz:=Nat.le_trans hz hB.size;have hlt:=Nat.lt_of_lt_of_le hlt hB.size;clear hn hB;have T3:=hd_ True.intro)
  | (go_at_call 105;(fail_if_success have z:=T4);have z:=T3;clear z;refine (cK_ _ _ _ _ _ _ _ HV_O.out.1 HV_I.out.1 (by (repeat (first|rw [aJ_]|rw [aO_]|rw [aX_]|rw [aL_]|rw [aE_]));omega)).mono ?_;rintro e w10 ⟨A_J,c_J,rfl,hn,hB⟩;have HV_J:=hd_ (hn.less hz);have HN:=hd_ (HN.out.past hB);have g0:=(hB.cell (p:=⟨w.heap.size+3,0,none⟩) (by simp;omega)).trans g0;have g1:=(hB.cell (p:=⟨w.heap.size+3,1,none⟩) (by simp;omega)).trans g1;have g2:=(hB.cell (p:=⟨w.heap.size+3,2,none⟩) (by simp;omega)).trans g2;have HB:=hd_ (HB.out.trans (hB.mono hz));have hz:=Nat.le_trans hz hB.size;have hlt:=Nat.lt_of_lt_of_le hlt hB.size;clear hn hB;have T4:=hd_ True.intro)
  | (go_at_call 104;(fail_if_success have z:=T5);have z:=T4;clear z;refine (jJ_ _ _ _ _ HV_J.out.1 (by (repeat (first|rw [aJ_]|rw [aO_]|rw [aX_]|rw [aL_]|rw [aE_]));omega)).mono ?_;rintro e w11 ⟨A_Q,c_Q,rfl,hn,hB⟩;have HV_Q:=hd_ (hn.less hz);have HN:=hd_ (HN.out.past hB);have g0:=(hB.cell (p:=⟨w.heap.size+3,0,none⟩) (by simp;omega)).trans g0;have g1:=(hB.cell (p:=⟨w.heap.size+3,1,none⟩) (by simp;omega)).trans g1;have g2:=(hB.cell (p:=⟨w.heap.size+3,2,none⟩) (by simp;omega)).trans g2;have HB:=hd_ (HB.out.trans (hB.mono hz));have hz:=Nat.le_trans hz hB.size;have hlt:=Nat.lt_of_lt_of_le hlt hB.size;clear hn hB;have T5:=hd_ True.intro))
 go_wp2
 go_ret
 exact ⟨A_Q,c_Q,rfl,HV_Q.out,HB.out⟩
theorem ahB_ {A:Option Addr} {c:Nat} {l:List Nd} {i:Nat} {t:ByteArray} {n:Int} {w:World} (hN:Nds w w.heap.size A l) (hi:i<l.length) (hnd:l[i]=Nd.mk 4 t n) (h40:l.length<=40) (hn0:n=0) :
  Calls Tryz.prog 62 #[.slice A l.length c,.int .i64 (i:Nat)] w (d4_ (aV_ (⟨#[91]⟩++⟨#[93]⟩)) w):=by
 subst hn0
 have hsz:(⟨#[91]⟩++⟨#[93]⟩:ByteArray).size<=maxLen:=by
  decide
 have HSZ:=hd_ hsz
 clear hsz
 obtain ⟨b,off,op,t',n',rfl,hb,hnd',hts,d1,d2,d3⟩:=hN.node (Below.refl _ _) hi
 rw [hnd] at hnd'
 cases hnd'
 have HR:=hd_ (h6_ 4 t 0 w hN)
 have k1:IntKind.i64.wrap ((i:Int)+1)=(i:Int)+1:=IntWalk.i64_in _ (by omega)
 clear hN hnd
 go_enter Tryz.func62,Tryz.ntmps62
 go_upto_region 6 with (fail)
 refine eZ_ (fun wy=>RfN (some ⟨b,off,none⟩) l 4 t 0 w wy) HR.out ?_
 exact lq80
theorem ahC_ {A:Option Addr} {c:Nat} {l:List Nd} {i:Nat} {t:ByteArray} {n:Int} {w:World} (hN:Nds w w.heap.size A l) (hi:i<l.length) (hnd:l[i]=Nd.mk 4 t n) (h40:l.length<=40) (hn1:1<=n) (hn6:n<=6) {K:List Nd} (hK:K.length<=900) (HK:Hid (∀ w',Nds w' w'.heap.size A l->Calls Tryz.prog 106 #[.slice A l.length c,.int .i64 ((i:Int)+1),.int .i64 n] w' (d4_ K w'))) :
  Calls Tryz.prog 62 #[.slice A l.length c,.int .i64 (i:Nat)] w (d4_ (bZ_ (aQ_ (aV_ ⟨#[91]⟩) (aQ_ (d7_ (aQ_ (opN 3) K)) (aQ_ (opN 3) (aV_ ⟨#[93]⟩))))) w):=by
 have hn0:(n==0)=false:=by simp;omega
 have hsz:(⟨#[91]⟩:ByteArray).size<=maxLen:=(by decide)
 have HSZ:=hd_ hsz
 clear hsz
 obtain ⟨b,off,op,t',n',rfl,hb,hnd',hts,d1,d2,d3⟩:=hN.node (Below.refl _ _) hi
 rw [hnd] at hnd'
 cases hnd'
 have HR:=hd_ (h6_ 4 t n w hN)
 have k1:IntKind.i64.wrap ((i:Int)+1)=(i:Int)+1:=IntWalk.i64_in _ (by omega)
 clear hN hnd
 go_enter Tryz.func62,Tryz.ntmps62
 go_upto_region 6 with (fail)
 refine eZ_ (fun wy=>RfN (some ⟨b,off,none⟩) l 4 t n w wy) HR.out ?_
 clear HR d1 d2 d3
 rintro w1 hy
 obtain ⟨⟨y0,y1,y2⟩,⟨g0,g1,g2⟩,⟨p0,p1,p2⟩⟩:=hy.cells
 have HV_bl:=hd_ hy.bl;have HV_so:=hd_ hy.so;have HN:=hd_ hy.nds;have HB:=hd_ hy.bel;have hz:=hy.bel.size
 have hlt:w.heap.size+4<w1.heap.size:=(Array.getElem?_eq_some_iff.1 hy.dp).1
 have hob:(opN 2).length=1:=rfl
 have hos:(opN 3).length=1:=rfl
 clear hy
 go_wp2_with fail
 go_region_held3 (fun w'=>w'.cell? ⟨w.heap.size,0,none⟩=some (.int .i64 4)/\w'.cell? ⟨w.heap.size,1,none⟩=some (.string t)/\w'.cell? ⟨w.heap.size,2,none⟩=some (.int .i64 n)/\w'.cell? ⟨w.heap.size+4,0,none⟩=some (.int .i64 7)/\w'.cell? ⟨w.heap.size+4,1,none⟩=some (.string .empty)/\w'.cell? ⟨w.heap.size+4,2,none⟩=some (.int .i64 2))
  (exact ⟨y0,y1,y2,p0,p1,p2⟩)
  (first
  | (go_at_call 106;(fail_if_success have z:=S0);refine (HK.out _ (HN.out.past (Below.refl _ _).drew)).mono ?_;rintro e w2 ⟨A_K,c_K,rfl,hn,hB⟩;have hB:=b7_ hB;have HV_K:=hd_ (hn.less hz);have HN:=hd_ (HN.out.past hB);have HV_so:=hd_ (HV_so.out.past hB);have y0:=(hB.cell (p:=⟨w.heap.size,0,none⟩) (by simp;omega)).trans y0;have y1:=(hB.cell (p:=⟨w.heap.size,1,none⟩) (by simp;omega)).trans y1;have y2:=(hB.cell (p:=⟨w.heap.size,2,none⟩) (by simp;omega)).trans y2;have g0:=(hB.cell (p:=⟨w.heap.size+3,0,none⟩) (by simp;omega)).trans g0;have g1:=(hB.cell (p:=⟨w.heap.size+3,1,none⟩) (by simp;omega)).trans g1;have g2:=(hB.cell (p:=⟨w.heap.size+3,2,none⟩) (by simp;omega)).trans g2;have p0:=(hB.cell (p:=⟨w.heap.size+4,0,none⟩) (by simp;omega)).trans p0;have p1:=(hB.cell (p:=⟨w.heap.size+4,1,none⟩) (by simp;omega)).trans p1;have p2:=(hB.cell (p:=⟨w.heap.size+4,2,none⟩) (by simp;omega)).trans p2;have HB:=hd_ (HB.out.trans (hB.mono hz));have hz:=Nat.le_trans hz hB.size;have hlt:=Nat.lt_of_lt_of_le hlt hB.size;clear hn hB;have S0:=hd_ True.intro)
  | (go_at_call 105;(fail_if_success have z:=S1);have z:=S0;clear z;refine (cK_ _ _ _ _ _ _ _ HV_so.out.1 HV_K.out.1 (by (repeat (first|rw [aJ_]|rw [aO_]|rw [aX_]|rw [aL_]|rw [aE_]));omega)).mono ?_;rintro e w3 ⟨A_F,c_F,rfl,hn,hB⟩;have HV_F:=hd_ (hn.less hz);have HV_so:=hd_ (HV_so.out.past hB);have HN:=hd_ (HN.out.past hB);have y0:=(hB.cell (p:=⟨w.heap.size,0,none⟩) (by simp;omega)).trans y0;have y1:=(hB.cell (p:=⟨w.heap.size,1,none⟩) (by simp;omega)).trans y1;have y2:=(hB.cell (p:=⟨w.heap.size,2,none⟩) (by simp;omega)).trans y2;have g0:=(hB.cell (p:=⟨w.heap.size+3,0,none⟩) (by simp;omega)).trans g0;have g1:=(hB.cell (p:=⟨w.heap.size+3,1,none⟩) (by simp;omega)).trans g1;have g2:=(hB.cell (p:=⟨w.heap.size+3,2,none⟩) (by simp;omega)).trans g2;have p0:=(hB.cell (p:=⟨w.heap.size+4,0,none⟩) (by simp;omega)).trans p0;have p1:=(hB.cell (p:=⟨w.heap.size+4,1,none⟩) (by simp;omega)).trans p1;have p2:=(hB.cell (p:=⟨w.heap.size+4,2,none⟩) (by simp;omega)).trans p2;have HB:=hd_ (HB.out.trans (hB.mono hz));have hz:=Nat.le_trans hz hB.size;have hlt:=Nat.lt_of_lt_of_le hlt hB.size;clear hn hB;have S1:=hd_ True.intro)
  | (go_at_call 104;(fail_if_success have z:=S2);have z:=S1;clear z;refine (kD_ _ _ _ _ HV_F.out.1 (by (repeat (first|rw [aJ_]|rw [aO_]|rw [aX_]|rw [aL_]|rw [aE_]));omega)).mono ?_;rintro e w4 ⟨A_G,c_G,rfl,hn,hB⟩;have HV_G:=hd_ (hn.less hz);have HV_so:=hd_ (HV_so.out.past hB);have HN:=hd_ (HN.out.past hB);have y0:=(hB.cell (p:=⟨w.heap.size,0,none⟩) (by simp;omega)).trans y0;have y1:=(hB.cell (p:=⟨w.heap.size,1,none⟩) (by simp;omega)).trans y1;have y2:=(hB.cell (p:=⟨w.heap.size,2,none⟩) (by simp;omega)).trans y2;have g0:=(hB.cell (p:=⟨w.heap.size+3,0,none⟩) (by simp;omega)).trans g0;have g1:=(hB.cell (p:=⟨w.heap.size+3,1,none⟩) (by simp;omega)).trans g1;have g2:=(hB.cell (p:=⟨w.heap.size+3,2,none⟩) (by simp;omega)).trans g2;have p0:=(hB.cell (p:=⟨w.heap.size+4,0,none⟩) (by simp;omega)).trans p0;have p1:=(hB.cell (p:=⟨w.heap.size+4,1,none⟩) (by simp;omega)).trans p1;have p2:=(hB.cell (p:=⟨w.heap.size+4,2,none⟩) (by simp;omega)).trans p2;have HB:=hd_ (HB.out.trans (hB.mono hz));have hz:=Nat.le_trans hz hB.size;have hlt:=Nat.lt_of_lt_of_le hlt hB.size;clear hn hB;have S2:=hd_ True.intro))
 go_wp2_with fail
 go_region_held3 (fun w'=>w'.cell? ⟨w.heap.size+3,0,none⟩=some (.int .i64 8)/\w'.cell? ⟨w.heap.size+3,1,none⟩=some (.string .empty)/\w'.cell? ⟨w.heap.size+3,2,none⟩=some (.int .i64 0))
  (exact ⟨g0,g1,g2⟩)
  (first
  | (go_at_call 101;(fail_if_success have z:=T0);refine (dG_ _ HSZ.out _).mono ?_;rintro e w6 ⟨A_O,c_O,rfl,hn,hB⟩;have hB:=b7_ hB;have HV_O:=hd_ (hn.less hz);have HN:=hd_ (HN.out.past hB);have HV_so:=hd_ (HV_so.out.past hB);have HV_G:=hd_ (HV_G.out.past hB);have g0:=(hB.cell (p:=⟨w.heap.size+3,0,none⟩) (by simp;omega)).trans g0;have g1:=(hB.cell (p:=⟨w.heap.size+3,1,none⟩) (by simp;omega)).trans g1;have g2:=(hB.cell (p:=⟨w.heap.size+3,2,none⟩) (by simp;omega)).trans g2;have HB:=hd_ (HB.out.trans (hB.mono hz));have hz:=Nat.le_trans hz hB.size;have hlt:=Nat.lt_of_lt_of_le hlt hB.size;clear hn hB;have T0:=hd_ True.intro)
  | (go_at_call 101;(fail_if_success have z:=T1);have z:=T0;clear z;refine (dG_ ⟨#[93]⟩ (by decide) _).mono ?_;rintro e w7 ⟨A_E,c_E,rfl,hn,hB⟩;have HV_E:=hd_ (hn.less hz);have HN:=hd_ (HN.out.past hB);have HV_so:=hd_ (HV_so.out.past hB);have HV_G:=hd_ (HV_G.out.past hB);have HV_O:=hd_ (HV_O.out.past hB);have g0:=(hB.cell (p:=⟨w.heap.size+3,0,none⟩) (by simp;omega)).trans g0;have g1:=(hB.cell (p:=⟨w.heap.size+3,1,none⟩) (by simp;omega)).trans g1;have g2:=(hB.cell (p:=⟨w.heap.size+3,2,none⟩) (by simp;omega)).trans g2;have HB:=hd_ (HB.out.trans (hB.mono hz));have hz:=Nat.le_trans hz hB.size;have hlt:=Nat.lt_of_lt_of_le hlt hB.size;clear hn hB;have T1:=hd_ True.intro)
  | (go_at_call 105;(fail_if_success have z:=T2);have z:=T1;clear z;refine (cK_ _ _ _ _ _ _ _ HV_so.out.1 HV_E.out.1 (by (repeat (first|rw [aJ_]|rw [aO_]|rw [aX_]|rw [aL_]|rw [aE_]));omega)).mono ?_;rintro e w8 ⟨A_H,c_H,rfl,hn,hB⟩;have HV_H:=hd_ (hn.less hz);have HN:=hd_ (HN.out.past hB);have HV_G:=hd_ (HV_G.out.past hB);have HV_O:=hd_ (HV_O.out.past hB);have g0:=(hB.cell (p:=⟨w.heap.size+3,0,none⟩) (by simp;omega)).trans g0;have g1:=(hB.cell (p:=⟨w.heap.size+3,1,none⟩) (by simp;omega)).trans g1;have g2:=(hB.cell (p:=⟨w.heap.size+3,2,none⟩) (by simp;omega)).trans g2;have HB:=hd_ (HB.out.trans (hB.mono hz));have hz:=Nat.le_trans hz hB.size;have hlt:=Nat.lt_of_lt_of_le hlt hB.size;clear hn hB;have T2:=hd_ True.intro)
  | (go_at_call 105;(fail_if_success have z:=T3);have z:=T2;clear z;refine (cK_ _ _ _ _ _ _ _ HV_G.out.1 HV_H.out.1 (by (repeat (first|rw [aJ_]|rw [aO_]|rw [aX_]|rw [aL_]|rw [aE_]));omega)).mono ?_;rintro e w9 ⟨A_I,c_I,rfl,hn,hB⟩;have HV_I:=hd_ (hn.less hz);have HN:=hd_ (HN.out.past hB);have HV_O:=hd_ (HV_O.out.past hB);have g0:=(hB.cell (p:=⟨w.heap.size+3,0,none⟩) (by simp;omega)).trans g0;have g1:=(hB.cell (p:=⟨w.heap.size+3,1,none⟩) (by simp;omega)).trans g1;have g2:=(hB.cell (p:=⟨w.heap.size+3,2,none⟩) (by simp;omega)).trans g2;have HB:=hd_ (HB.out.trans (hB.mono hz));have hz:=Nat.le_trans hz hB.size;have hlt:=Nat.lt_of_lt_of_le hlt hB.size;clear hn hB;have T3:=hd_ True.intro)
  | (go_at_call 105;(fail_if_success have z:=T4);have z:=T3;clear z;refine (cK_ _ _ _ _ _ _ _ HV_O.out.1 HV_I.out.1 (by (repeat (first|rw [aJ_]|rw [aO_]|rw [aX_]|rw [aL_]|rw [aE_]));omega)).mono ?_;rintro e w10 ⟨A_J,c_J,rfl,hn,hB⟩;have HV_J:=hd_ (hn.less hz);have HN:=hd_ (HN.out.past hB);have g0:=(hB.cell (p:=⟨w.heap.size+3,0,none⟩) (by simp;omega)).trans g0;have g1:=(hB.cell (p:=⟨w.heap.size+3,1,none⟩) (by simp;omega)).trans g1;have g2:=(hB.cell (p:=⟨w.heap.size+3,2,none⟩) (by simp;omega)).trans g2;have HB:=hd_ (HB.out.trans (hB.mono hz));have hz:=Nat.le_trans hz hB.size;have hlt:=Nat.lt_of_lt_of_le hlt hB.size;clear hn hB;have T4:=hd_ True.intro)
  | (go_at_call 104;(fail_if_success have z:=T5);have z:=T4;clear z;refine (jJ_ _ _ _ _ HV_J.out.1 (by (repeat (first|rw [aJ_]|rw [aO_]|rw [aX_]|rw [aL_]|rw [aE_]));omega)).mono ?_;rintro e w11 ⟨A_Q,c_Q,rfl,hn,hB⟩;have HV_Q:=hd_ (hn.less hz);have HN:=hd_ (HN.out.past hB);have g0:=(hB.cell (p:=⟨w.heap.size+3,0,none⟩) (by simp;omega)).trans g0;have g1:=(hB.cell (p:=⟨w.heap.size+3,1,none⟩) (by simp;omega)).trans g1;have g2:=(hB.cell (p:=⟨w.heap.size+3,2,none⟩) (by simp;omega)).trans g2;have HB:=hd_ (HB.out.trans (hB.mono hz));have hz:=Nat.le_trans hz hB.size;have hlt:=Nat.lt_of_lt_of_le hlt hB.size;clear hn hB;have T5:=hd_ True.intro))
 go_wp2
 go_ret
 exact ⟨A_Q,c_Q,rfl,HV_Q.out,HB.out⟩
theorem aeN_ {A:Option Addr} {c:Nat} {l:List Nd} (hT:Tr l):∀ f,qP_ A c l f:=by
 intro f
 induction f with
 | zero=>intro i v w hv hN hi hf;omega
 | succ f ih =>
 intro i v w hv hN hi hf h9
 subst hv
 have hk:=hT.kidsP hi
 have hone:=hT.one _ (List.getElem_mem hi)
 have hmm:(bC_ l).getD i 0=(bK_ l[i].op l[i].n).toNat:=gX_ hi rfl
 rw [hmm] at hk
 clear hmm
 have hoe:aW_ l i=l[i].op:=by rw [aW_,bF_ hi]
 rw [hoe] at h9
 obtain ⟨op,t,n,hnd⟩:∃ op t n,l[i]=Nd.mk op t n:=⟨_,_,_,rfl⟩
 rw [hnd] at hone hk h9 hoe
 simp only at hone hk h9 hoe
 have hop:1<=op/\op<=8:=by
  by_cases hc:op<1∨9<op
  ·rw [a8_,if_pos (by rcases hc with h|h;exact .inl h;exact .inr (.inl h))] at hone;cases hone
  ·omega
 have hnm:dP_ op=true->t.size<=8:=fun h=>(g2_ (fV_ hone h h9)).2.1
 have hn6:=hM_ hone
 have hm40:=hT.len
 have hcs:op=1∨op=2∨op=3∨op=4∨op=5∨op=6∨op=7∨op=8:=by omega
 rcases hcs with rfl|rfl|rfl|rfl|rfl|rfl|rfl|rfl
 ·obtain ⟨n0,n1⟩:=mL_ hone
  rw [show aG_ l (f+1) i=aV_ ⟨(Lib.itoa n).toArray⟩ by
   rw [aG_,bF_ hi,hnd]
   simp only [if_true]]
  exact akA_ hN hi hnd hm40 n0 n1
 ·rw [show aG_ l (f+1) i=aV_ t by
   rw [aG_,bF_ hi,hnd]
   simp only [show ¬ (2:Int)=1 by decide,if_false,if_true]]
  exact akB_ hN hi hnd hm40
 ·rw [show bK_ 3 n=n from rfl] at hk hn6
  rw [show aG_ l (f+1) i=dE_ (t++⟨#[40]⟩) ⟨#[41]⟩ n.toNat (bU_ (aG_ l f) (a7_ l) (i+1) n.toNat) by
   rw [aG_,bF_ hi,hnd]
   simp only [show ¬ (3:Int)=1 by decide,show ¬ (3:Int)=2 by decide,if_false,if_true]]
  by_cases h0:n=0
  ·rw [show dE_ (t++⟨#[40]⟩) ⟨#[41]⟩ n.toNat (bU_ (aG_ l f) (a7_ l) (i+1) n.toNat)=aV_ (t++⟨#[40]⟩++⟨#[41]⟩) by rw [h0];rfl]
   exact ah9_ hN hi hnd hm40 (hnm rfl) h0
  ·obtain ⟨m,rfl⟩:∃ m:Nat,n=(m:Int)+1:=⟨n.toNat-1,by omega⟩
   rw [show ((m:Int)+1).toNat=m+1 by omega] at hk ⊢
   have hzl:=(nM_ hk (by omega)).2
   rw [show dE_ (t++⟨#[40]⟩) ⟨#[41]⟩ (m+1) (bU_ (aG_ l f) (a7_ l) (i+1) (m+1))=bZ_ (aQ_ (aV_ (t++⟨#[40]⟩)) (aQ_ (d7_ (aQ_ (opN 3) (bU_ (aG_ l f) (a7_ l) (i+1) (m+1)))) (aQ_ (opN 3) (aV_ ⟨#[41]⟩)))) by simp [dE_]]
   exact ahA_ hN hi hnd hm40 (hnm rfl) (by omega) (by omega) (kV_ hT hk (by omega) (by omega) hzl) (hd_ (fun w' hw'=>sM_ hT ih m (i+1) _ _ _ w' hk (by omega) (by omega) hw' (by omega) rfl (by omega)))
 ·rw [show bK_ 4 n=n from rfl] at hk hn6
  rw [show aG_ l (f+1) i=dE_ ⟨#[91]⟩ ⟨#[93]⟩ n.toNat (bU_ (aG_ l f) (a7_ l) (i+1) n.toNat) by
   rw [aG_,bF_ hi,hnd]
   simp only [show ¬ (4:Int)=1 by decide,show ¬ (4:Int)=2 by decide,show ¬ (4:Int)=3 by decide,if_false,if_true]]
  by_cases h0:n=0
  ·rw [show dE_ ⟨#[91]⟩ ⟨#[93]⟩ n.toNat (bU_ (aG_ l f) (a7_ l) (i+1) n.toNat)=aV_ (⟨#[91]⟩++⟨#[93]⟩) by rw [h0];rfl]
   exact ahB_ hN hi hnd hm40 h0
  ·obtain ⟨m,rfl⟩:∃ m:Nat,n=(m:Int)+1:=⟨n.toNat-1,by omega⟩
   rw [show ((m:Int)+1).toNat=m+1 by omega] at hk ⊢
   have hzl:=(nM_ hk (by omega)).2
   rw [show dE_ ⟨#[91]⟩ ⟨#[93]⟩ (m+1) (bU_ (aG_ l f) (a7_ l) (i+1) (m+1))=bZ_ (aQ_ (aV_ ⟨#[91]⟩) (aQ_ (d7_ (aQ_ (opN 3) (bU_ (aG_ l f) (a7_ l) (i+1) (m+1)))) (aQ_ (opN 3) (aV_ ⟨#[93]⟩)))) by simp [dE_]]
   exact ahC_ hN hi hnd hm40 (by omega) (by omega) (kV_ hT hk (by omega) (by omega) hzl) (hd_ (fun w' hw'=>sM_ hT ih m (i+1) _ _ _ w' hk (by omega) (by omega) hw' (by omega) rfl (by omega)))
 ·rw [show (bK_ 5 n).toNat=2 from rfl] at hk
  obtain ⟨q1,q2,r1,r2,r3⟩:i+1<l.length/\i+1<a7_ l (i+1)/\a7_ l (i+1)<l.length/\a7_ l (i+1)<a7_ l (a7_ l (i+1))/\a7_ l (a7_ l (i+1))=a7_ l i:=⟨hk.1,hk.2.1,hk.2.2.1,hk.2.2.2.1,hk.2.2.2.2⟩
  rw [show aG_ l (f+1) i=i4_ ⟨#[43,32]⟩ (d8_ 5 (aW_ l (i+1)) false (aG_ l f (i+1))) (d8_ 5 (aW_ l (a7_ l (i+1))) true (aG_ l f (a7_ l (i+1)))) by
   rw [aG_,bF_ hi,hnd]
   simp only [show ¬ (5:Int)=1 by decide,show ¬ (5:Int)=2 by decide,show ¬ (5:Int)=3 by decide,show ¬ (5:Int)=4 by decide,if_false,if_true]]
  have hx1:=fD_ 5 (aW_ l (i+1)) false (aG_ l f (i+1))
  have hx2:=f5_ hT (f:=f) (by omega) q1 (gI_ hT q1 (by omega))
  have hy1:=fD_ 5 (aW_ l (a7_ l (i+1))) true (aG_ l f (a7_ l (i+1)))
  have hy2:=f5_ hT (f:=f) (by omega) r1 (gI_ hT r1 (by omega))
  have c1:=fun w' hw'=>mG_ (A:=A) (c:=c) hT ih i (i+1) i ((i:Int)+1) false w' rfl (by omega) hw' hi q1 (by omega) (by omega)
  have c2:=fun w' hw'=>mG_ (A:=A) (c:=c) hT ih i (a7_ l (i+1)) i (a7_ l (i+1):Nat) true w' rfl rfl hw' hi r1 (by omega) (by omega)
  rw [hoe] at c1 c2
  exact akC_ hN hi hnd hm40 (by omega) (by omega) (hd_ c1) (hd_ c2) (hd_ (fun w' hw'=>p9_ hT A c q1 (by omega) w' hw'))
 ·rw [show (bK_ 6 n).toNat=2 from rfl] at hk
  obtain ⟨q1,q2,r1,r2,r3⟩:i+1<l.length/\i+1<a7_ l (i+1)/\a7_ l (i+1)<l.length/\a7_ l (i+1)<a7_ l (a7_ l (i+1))/\a7_ l (a7_ l (i+1))=a7_ l i:=⟨hk.1,hk.2.1,hk.2.2.1,hk.2.2.2.1,hk.2.2.2.2⟩
  rw [show aG_ l (f+1) i=i4_ ⟨#[42,32]⟩ (d8_ 6 (aW_ l (i+1)) false (aG_ l f (i+1))) (d8_ 6 (aW_ l (a7_ l (i+1))) true (aG_ l f (a7_ l (i+1)))) by
   rw [aG_,bF_ hi,hnd]
   simp only [show ¬ (6:Int)=1 by decide,show ¬ (6:Int)=2 by decide,show ¬ (6:Int)=3 by decide,show ¬ (6:Int)=4 by decide,show ¬ (6:Int)=5 by decide,if_false,if_true]]
  have hx1:=fD_ 6 (aW_ l (i+1)) false (aG_ l f (i+1))
  have hx2:=f5_ hT (f:=f) (by omega) q1 (gI_ hT q1 (by omega))
  have hy1:=fD_ 6 (aW_ l (a7_ l (i+1))) true (aG_ l f (a7_ l (i+1)))
  have hy2:=f5_ hT (f:=f) (by omega) r1 (gI_ hT r1 (by omega))
  have c1:=fun w' hw'=>mG_ (A:=A) (c:=c) hT ih i (i+1) i ((i:Int)+1) false w' rfl (by omega) hw' hi q1 (by omega) (by omega)
  have c2:=fun w' hw'=>mG_ (A:=A) (c:=c) hT ih i (a7_ l (i+1)) i (a7_ l (i+1):Nat) true w' rfl rfl hw' hi r1 (by omega) (by omega)
  rw [hoe] at c1 c2
  exact akD_ hN hi hnd hm40 (by omega) (by omega) (hd_ c1) (hd_ c2) (hd_ (fun w' hw'=>p9_ hT A c q1 (by omega) w' hw'))
 ·rw [show (bK_ 7 n).toNat=1 from rfl] at hk
  have q1:i+1<l.length:=hk.1
  have h99:=gI_ hT q1 (by omega)
  rw [show aG_ l (f+1) i=bZ_ (aQ_ (aV_ (⟨#[108,101,116,32]⟩++t++⟨#[32,61]⟩)) (d7_ (aQ_ (opN 2) (aQ_ (aG_ l f (i+1)) (aV_ ⟨#[59]⟩))))) by
   rw [aG_,bF_ hi,hnd]
   simp only [show ¬ (7:Int)=1 by decide,show ¬ (7:Int)=2 by decide,show ¬ (7:Int)=3 by decide,show ¬ (7:Int)=4 by decide,show ¬ (7:Int)=5 by decide,show ¬ (7:Int)=6 by decide,if_false,if_true]]
  exact akE_ hN hi hnd hm40 (hnm rfl) (f5_ hT (f:=f) (by omega) q1 h99) (hd_ (fun w' hw'=>ih (i+1) ((i:Int)+1) w' (by omega) hw' q1 (by omega) h99))
 ·rw [show (bK_ 8 n).toNat=1 from rfl] at hk
  have q1:i+1<l.length:=hk.1
  have h99:=gI_ hT q1 (by omega)
  rw [show aG_ l (f+1) i=aQ_ (aG_ l f (i+1)) (aV_ ⟨#[59]⟩) by
   rw [aG_,bF_ hi,hnd]
   simp only [show ¬ (8:Int)=1 by decide,show ¬ (8:Int)=2 by decide,show ¬ (8:Int)=3 by decide,show ¬ (8:Int)=4 by decide,show ¬ (8:Int)=5 by decide,show ¬ (8:Int)=6 by decide,show ¬ (8:Int)=7 by decide,if_false]]
  exact akF_ hN hi hnd hm40 (f5_ hT (f:=f) (by omega) q1 h99) (hd_ (fun w' hw'=>ih (i+1) ((i:Int)+1) w' (by omega) hw' q1 (by omega) h99))
end Go.Proofs.YtddfdmopaeghnacGreatDoor
