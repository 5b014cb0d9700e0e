/- Walks of the reference's word, two, under, Bound, Dec. With what it rests on. Conditions: as each theorem states them. -/
import Derived.Test.YtddfdmopaeghnadGreatDoorDqLo
set_option maxRecDepth 100000
set_option maxHeartbeats 16000000
namespace Go.Proofs.YtddfdmopaeghnadGreatDoor
variable {P Q:Prop}
theorem ds34 (k:Q) (h:Nx_ Q->P:=by intro k_;go_at_call 101;(fail_if_success have z:=S1);have z:=S0;clear z;refine (dO_ _ _ _ _ _ _ _ HV_so.out.1 HV_K.out.1 (by (repeat (first|rw [aR_]|rw [aW_]|rw [b6_]|rw [aT_]|rw [aI_]));omega)).mono ?_;rintro e w3 ⟨A_F,c_F,rfl,hn,hB⟩;have HV_F:=hd_ (hn.less hz);have HV_so:=hd_ (HV_so.out.past hB);have HN:=hd_ (HN.out.past hB);have y0:=(hB.cell (p:=⟨w.heap.size,0,none⟩) so_).trans y0;have y1:=(hB.cell (p:=⟨w.heap.size,1,none⟩) so_).trans y1;have y2:=(hB.cell (p:=⟨w.heap.size,2,none⟩) so_).trans y2;have g0:=(hB.cell (p:=⟨w.heap.size+3,0,none⟩) so_).trans g0;have g1:=(hB.cell (p:=⟨w.heap.size+3,1,none⟩) so_).trans g1;have g2:=(hB.cell (p:=⟨w.heap.size+3,2,none⟩) so_).trans g2;have p0:=(hB.cell (p:=⟨w.heap.size+4,0,none⟩) so_).trans p0;have p1:=(hB.cell (p:=⟨w.heap.size+4,1,none⟩) so_).trans p1;have p2:=(hB.cell (p:=⟨w.heap.size+4,2,none⟩) so_).trans p2;have HB:=hd_ (HB.out.trans (hB.mono hz));have hz:=Nat.le_trans hz hB.size;have hlt:=Nat.lt_of_lt_of_le hlt hB.size;clear hn hB;have S1:=hd_ True.intro;revert w3 A_F c_F HV_F HV_so HN y0 y1 y2 g0 g1 g2 p0 p1 p2 HB hz hlt S1;exact k_.o):P:=h ⟨k⟩
theorem ds35 (k:Q) (h:Nx_ Q->P:=by intro k_;go_at_call 100;(fail_if_success have z:=S2);have z:=S1;clear z;refine (oW_ _ _ _ _ HV_F.out.1 (by (repeat (first|rw [aR_]|rw [aW_]|rw [b6_]|rw [aT_]|rw [aI_]));omega)).mono ?_;rintro e w4 ⟨A_G,c_G,rfl,hn,hB⟩;have HV_G:=hd_ (hn.less hz);have HV_so:=hd_ (HV_so.out.past hB);have HN:=hd_ (HN.out.past hB);have y0:=(hB.cell (p:=⟨w.heap.size,0,none⟩) so_).trans y0;have y1:=(hB.cell (p:=⟨w.heap.size,1,none⟩) so_).trans y1;have y2:=(hB.cell (p:=⟨w.heap.size,2,none⟩) so_).trans y2;have g0:=(hB.cell (p:=⟨w.heap.size+3,0,none⟩) so_).trans g0;have g1:=(hB.cell (p:=⟨w.heap.size+3,1,none⟩) so_).trans g1;have g2:=(hB.cell (p:=⟨w.heap.size+3,2,none⟩) so_).trans g2;have p0:=(hB.cell (p:=⟨w.heap.size+4,0,none⟩) so_).trans p0;have p1:=(hB.cell (p:=⟨w.heap.size+4,1,none⟩) so_).trans p1;have p2:=(hB.cell (p:=⟨w.heap.size+4,2,none⟩) so_).trans p2;have HB:=hd_ (HB.out.trans (hB.mono hz));have hz:=Nat.le_trans hz hB.size;have hlt:=Nat.lt_of_lt_of_le hlt hB.size;clear hn hB;have S2:=hd_ True.intro;revert w4 A_G c_G HV_G HV_so HN y0 y1 y2 g0 g1 g2 p0 p1 p2 HB hz hlt S2;exact k_.o):P:=h ⟨k⟩
theorem ds36 (k:Q) (h:Nx_ Q->P:=by intro k_;go_at_call 102;(fail_if_success have z:=S0);refine (HK.out _ (HN.out.past (Below.refl _ _).drew)).mono ?_;rintro e w2 ⟨A_K,c_K,rfl,hn,hB⟩;have hB:=bR_ hB;have HV_K:=hd_ (hn.less hz);have HN:=hd_ (HN.out.past hB);have HV_so:=hd_ (HV_so.out.past hB);have y0:=(hB.cell (p:=⟨w.heap.size,0,none⟩) so_).trans y0;have y1:=(hB.cell (p:=⟨w.heap.size,1,none⟩) so_).trans y1;have y2:=(hB.cell (p:=⟨w.heap.size,2,none⟩) so_).trans y2;have g0:=(hB.cell (p:=⟨w.heap.size+3,0,none⟩) so_).trans g0;have g1:=(hB.cell (p:=⟨w.heap.size+3,1,none⟩) so_).trans g1;have g2:=(hB.cell (p:=⟨w.heap.size+3,2,none⟩) so_).trans g2;have p0:=(hB.cell (p:=⟨w.heap.size+4,0,none⟩) so_).trans p0;have p1:=(hB.cell (p:=⟨w.heap.size+4,1,none⟩) so_).trans p1;have p2:=(hB.cell (p:=⟨w.heap.size+4,2,none⟩) so_).trans p2;have HB:=hd_ (HB.out.trans (hB.mono hz));have hz:=Nat.le_trans hz hB.size;have hlt:=Nat.lt_of_lt_of_le hlt hB.size;clear hn hB;have S0:=hd_ True.intro;revert w2 A_K c_K HV_K HN HV_so y0 y1 y2 g0 g1 g2 p0 p1 p2 HB hz hlt S0;exact k_.o):P:=h ⟨k⟩
theorem ds37 (k:Q) (h:Nx_ Q->P:=by intro k_;go_at_call 101;(fail_if_success have z:=T2);have z:=T1;clear z;refine (dO_ _ _ _ _ _ _ _ HV_so.out.1 HV_E.out.1 (by (repeat (first|rw [aR_]|rw [aW_]|rw [b6_]|rw [aT_]|rw [aI_]));omega)).mono ?_;rintro e w8 ⟨A_H,c_H,rfl,hn,hB⟩;have HV_H:=hd_ (hn.less hz);have HN:=hd_ (HN.out.past hB);have HV_G:=hd_ (HV_G.out.past hB);have HV_O:=hd_ (HV_O.out.past hB);have g0:=(hB.cell (p:=⟨w.heap.size+3,0,none⟩) so_).trans g0;have g1:=(hB.cell (p:=⟨w.heap.size+3,1,none⟩) so_).trans g1;have g2:=(hB.cell (p:=⟨w.heap.size+3,2,none⟩) so_).trans g2;have HB:=hd_ (HB.out.trans (hB.mono hz));have hz:=Nat.le_trans hz hB.size;have hlt:=Nat.lt_of_lt_of_le hlt hB.size;clear hn hB;have T2:=hd_ True.intro;revert w8 A_H c_H HV_H HN HV_G HV_O g0 g1 g2 HB hz hlt T2;exact k_.o):P:=h ⟨k⟩
theorem ds38 (k:Q) (h:Nx_ Q->P:=by intro k_;go_at_call 101;(fail_if_success have z:=T3);have z:=T2;clear z;refine (dO_ _ _ _ _ _ _ _ HV_G.out.1 HV_H.out.1 (by (repeat (first|rw [aR_]|rw [aW_]|rw [b6_]|rw [aT_]|rw [aI_]));omega)).mono ?_;rintro e w9 ⟨A_I,c_I,rfl,hn,hB⟩;have HV_I:=hd_ (hn.less hz);have HN:=hd_ (HN.out.past hB);have HV_O:=hd_ (HV_O.out.past hB);have g0:=(hB.cell (p:=⟨w.heap.size+3,0,none⟩) so_).trans g0;have g1:=(hB.cell (p:=⟨w.heap.size+3,1,none⟩) so_).trans g1;have g2:=(hB.cell (p:=⟨w.heap.size+3,2,none⟩) so_).trans g2;have HB:=hd_ (HB.out.trans (hB.mono hz));have hz:=Nat.le_trans hz hB.size;have hlt:=Nat.lt_of_lt_of_le hlt hB.size;clear hn hB;have T3:=hd_ True.intro;revert w9 A_I c_I HV_I HN HV_O g0 g1 g2 HB hz hlt T3;exact k_.o):P:=h ⟨k⟩
theorem ds39 (k:Q) (h:Nx_ Q->P:=by intro k_;go_at_call 101;(fail_if_success have z:=T4);have z:=T3;clear z;refine (dO_ _ _ _ _ _ _ _ HV_O.out.1 HV_I.out.1 (by (repeat (first|rw [aR_]|rw [aW_]|rw [b6_]|rw [aT_]|rw [aI_]));omega)).mono ?_;rintro e w10 ⟨A_J,c_J,rfl,hn,hB⟩;have HV_J:=hd_ (hn.less hz);have HN:=hd_ (HN.out.past hB);have g0:=(hB.cell (p:=⟨w.heap.size+3,0,none⟩) so_).trans g0;have g1:=(hB.cell (p:=⟨w.heap.size+3,1,none⟩) so_).trans g1;have g2:=(hB.cell (p:=⟨w.heap.size+3,2,none⟩) so_).trans g2;have HB:=hd_ (HB.out.trans (hB.mono hz));have hz:=Nat.le_trans hz hB.size;have hlt:=Nat.lt_of_lt_of_le hlt hB.size;clear hn hB;have T4:=hd_ True.intro;revert w10 A_J c_J HV_J HN g0 g1 g2 HB hz hlt T4;exact k_.o):P:=h ⟨k⟩
theorem ds40 (k:Q) (h:Nx_ Q->P:=by intro k_;go_at_call 100;(fail_if_success have z:=T5);have z:=T4;clear z;refine (nR_ _ _ _ _ HV_J.out.1 (by (repeat (first|rw [aR_]|rw [aW_]|rw [b6_]|rw [aT_]|rw [aI_]));omega)).mono ?_;rintro e w11 ⟨A_Q,c_Q,rfl,hn,hB⟩;have HV_Q:=hd_ (hn.less hz);have HN:=hd_ (HN.out.past hB);have g0:=(hB.cell (p:=⟨w.heap.size+3,0,none⟩) so_).trans g0;have g1:=(hB.cell (p:=⟨w.heap.size+3,1,none⟩) so_).trans g1;have g2:=(hB.cell (p:=⟨w.heap.size+3,2,none⟩) so_).trans g2;have HB:=hd_ (HB.out.trans (hB.mono hz));have hz:=Nat.le_trans hz hB.size;have hlt:=Nat.lt_of_lt_of_le hlt hB.size;clear hn hB;have T5:=hd_ True.intro;revert w11 A_Q c_Q HV_Q HN g0 g1 g2 HB hz hlt T5;exact k_.o):P:=h ⟨k⟩
theorem ds41 (k:Q) (h:Nx_ Q->P:=by intro k_;go_at_call 98;(fail_if_success have z:=T0);refine (e3_ _ HSZ.out _).mono ?_;rintro e w6 ⟨A_O,c_O,rfl,hn,hB⟩;have hB:=bR_ hB;have HV_O:=hd_ (hn.less hz);have HN:=hd_ (HN.out.past hB);have HV_so:=hd_ (HV_so.out.past hB);have HV_G:=hd_ (HV_G.out.past hB);have g0:=(hB.cell (p:=⟨w.heap.size+3,0,none⟩) so_).trans g0;have g1:=(hB.cell (p:=⟨w.heap.size+3,1,none⟩) so_).trans g1;have g2:=(hB.cell (p:=⟨w.heap.size+3,2,none⟩) so_).trans g2;have HB:=hd_ (HB.out.trans (hB.mono hz));have hz:=Nat.le_trans hz hB.size;have hlt:=Nat.lt_of_lt_of_le hlt hB.size;clear hn hB;have T0:=hd_ True.intro;revert w6 A_O c_O HV_O HN HV_so HV_G g0 g1 g2 HB hz hlt T0;exact k_.o):P:=h ⟨k⟩
theorem ds42 (k:Q) (h:Nx_ Q->P:=by intro k_;go_at_call 51;(fail_if_success have z:=S0);refine (HI.out _ HN.out).mono ?_;rintro e w1 ⟨A_d,c_d,rfl,hn,hB⟩;have HV_d:=hd_ (hn.less hz);have HN:=hd_ (HN.out.past hB);have HB:=hd_ (HB.out.trans (hB.mono hz));have hz:=Nat.le_trans hz hB.size;clear hn hB;have S0:=hd_ True.intro;revert w1 A_d c_d HV_d HN HB hz S0;exact k_.o):P:=h ⟨k⟩
open Go.RowKit
theorem tO_ {P:Program} (w:World) (t:TypeId) (s:ByteArray) (ht:P.underlying t=some .string) (l h:Int) (h0:0<=l) (h1:l<=h) (h2:h<=s.size) :
  (Instr.slice t (.string s) (some (.int .i64 l)) (some (.int .i64 h)) none).run P w=.ok (.string (s.extract l.toNat h.toNat)) w:=by
 have eh:(h.toNat:Int)=h:=Int.toNat_of_nonneg om_
 simp [Instr.slice,run_underlying ht,Instr.sliceBounds,run_sliceBound, *,(by omega:0<=h)]
theorem e3_ (s:ByteArray) (hs:s.size<=maxLen) (w:World):Calls Tryz.prog 98 #[.string s] w (dC_ (aQ_ s) w):=by
 have HL:=hd_ (NdF.lit w ⟨1,s,0⟩ hs)
 clear hs
 go_enter Tryz.func98,Tryz.ntmps98
 go_wp2
 go_ret
 exact ⟨_,_,rfl,HL.out,aF_⟩
theorem mN_ {w w' w0:World} {base:Nat} {e:TypeId} {sz n:Nat} {v:Value} {xs:List Value} (hb:Below base w0 w) (ho:w.ownsRow base e sz v n xs) (hg:w.grownBy w' v.ownBlock) (hB:base<=w.heap.size):Below base w0 w' :=
 hb.grown hg hB (fun k hk=>(ho.lt k hk).1)
theorem dO_ (a b:List Nd) (A B:Option Addr) (c d:Nat) (w:World) (ha:Nds w w.heap.size A a) (hb:Nds w w.heap.size B b) (hsz:a.length+b.length<=10000) :
  Calls Tryz.prog 101 #[.slice A a.length c,.slice B b.length d] w (dC_ (aN_ a b) w):=by
 obtain ⟨i0,hi0,hz0,hz1,hz2⟩:=info_parts lG_
 have HA:=hd_ (ha.1.alloc (.cells #[.int .i64 6,.string .empty,.int .i64 0] 190))
 have HB:=hd_ hb
 have HT:Hid (∀ z ∈ aN_ a b,z.text.size<=maxLen):=hd_ (by
  intro z hz
  simp only [aN_,List.mem_cons,List.mem_append] at hz
  rcases hz with rfl|hz|hz
  ·simp [maxLen]
  ·exact ha.2.2 _ hz
  ·exact hb.2.2 _ hz)
 have H0:=hd_ (World.ownsRow_lit (base:=w.heap.size) (e:=190) (size:=3) w #[.int .i64 6,.string .empty,.int .i64 0] 1 (Nat.le_refl _) (by simp [maxLen]) si_)
 have HAL:Hid (Below w.heap.size w (w.alloc (.cells #[.int .i64 6,.string .empty,.int .i64 0] 190))):=hd_ (aE_)
 clear ha hb
 go_enter Tryz.func101,Tryz.ntmps101
 go_upto_region 3 with (at_builtin;refine b4_ _ rfl (.tmp 8) (.tmp 9) _ rfl w.heap.size 190 i0 _ 3 32 Tryz.underlying109 hi0 hz0 hz1 hz2 rfl om_ _ 1 _ rfl H0.out _ A a.length c _ rfl HA.out (e1_ a) (by simp only [maxLen];omega) om_ si_ ?_;intro v7 w7 hown7 hg7 hat7;clear hat7;obtain ⟨A7,c7,hv7⟩:=b7_ hown7;subst hv7;have H7:=hd_ hown7;have HG7:=hd_ hg7;clear hown7 hg7)
 have HB7:=hd_ (mN_ HAL.out H0.out HG7.out si_)
 have hz7:=HB7.out.size
 have HBB:=hd_ (HB.out.past HB7.out).1
 clear HG7
 go_wp2_with (at_builtin;refine b4_ _ rfl (.tmp 11) (.tmp 12) _ rfl w.heap.size 190 i0 _ 3 32 Tryz.underlying109 hi0 hz0 hz1 hz2 rfl om_ _ (1+a.length) _ rfl H7.out _ B b.length d _ rfl HBB.out (e1_ b) (by simp only [maxLen];omega) om_ om_ ?_;intro v8 w8 hown8 hg8 hat8;clear hat8;obtain ⟨A8,c8,hv8⟩:=b7_ hown8;subst hv8;have H8:=hd_ hown8;have HG8:=hd_ hg8;clear hown8 hg8)
 go_ret
 have hl:(aN_ a b).length=1+a.length+b.length:=by rw [aR_];omega
 refine ⟨A8,c8,by rw [hl];rfl,NdF.own (n:=1+a.length+b.length) (c:=c8) ?_ hl.symm (by rw [hl];simp only [maxLen];omega) HT.out,mN_ HB7.out H7.out HG8.out hz7⟩
 have h8:=H8.out
 simp only [aN_,List.flatMap_cons,List.flatMap_append]
 simpa [cJ_] using h8
theorem rP_ (h:P:=by
 cases sec
 ·go_enter Tryz.func109,Tryz.ntmps109
  go_wp2
  go_ret
  exact ⟨rfl,aF_⟩
 ·go_enter Tryz.func109,Tryz.ntmps109
  go_wp2
  go_ret
  exact ⟨rfl,aF_⟩):P:=h
theorem sF_ (po pn ko kn:Int) (pt kt:ByteArray) (sec:Bool) (w:World) :
  Calls Tryz.prog 109 #[.agg #[.int .i64 po,.string pt,.int .i64 pn],.agg #[.int .i64 ko,.string kt,.int .i64 kn],.bool sec] w (Ret w (.bool (bV_ po ko sec))):=by
 by_cases h6:po=6
 ·subst h6
  by_cases k5:ko=5
  ·subst k5
   rw [show bV_ 6 5 sec=true by cases sec <;> rfl]
   go_enter Tryz.func109,Tryz.ntmps109
   go_wp2
   go_ret
   exact ⟨rfl,aF_⟩
  ·have k5b:(ko==5)=false:=by simpa using k5
   by_cases k6:ko=6
   ·subst k6
    rw [show bV_ 6 6 sec=sec by cases sec <;> rfl]
    exact rP_
   ·have k6b:(ko==6)=false:=by simpa using k6
    rw [show bV_ 6 ko sec=false by simp [bV_,k5,k6]]
    clear k5 k6
    exact rP_
 ·by_cases h5:po=5
  ·subst h5
   by_cases k5:ko=5
   ·subst k5
    rw [show bV_ 5 5 sec=sec by cases sec <;> rfl]
    exact rP_
   ·have k5b:(ko==5)=false:=by simpa using k5
    rw [show bV_ 5 ko sec=false by simp [bV_,k5]]
    clear k5 h6
    exact rP_
  ·have h5b:(po==5)=false:=by simpa using h5
   have h6b:(po==6)=false:=by simpa using h6
   rw [show bV_ po ko sec=false by simp [bV_,h5,h6]]
   clear h5 h6
   exact rP_
theorem ajW_ {w:World} {base n g:Nat} {e:TypeId} {size:Nat} (cs:Array Value) (hg:w.heap.size=g) (hb:base<=g) (hm:n<=maxLen) (hs:cs.size=n*size) :
  (w.alloc (.cells cs e)).ownsRow base e size (.slice (some ⟨g,0,none⟩) n n) n cs.toList:=by
 subst hg
 exact World.ownsRow_lit w cs n hb hm hs
theorem sH_ (op n:Int) (t:ByteArray) (ht:t.size<=maxLen) (a:List Nd) (A:Option Addr) (c:Nat) (w:World) (ha:Nds w w.heap.size A a) (hsz:a.length<=10000) :
  Calls Tryz.prog 100 #[.agg #[.int .i64 op,.string t,.int .i64 n],.slice A a.length c] w (dC_ (⟨op,t,n⟩::a) w):=by
 obtain ⟨i0,hi0,hz0,hz1,hz2⟩:=info_parts lG_
 have hB1:Below w.heap.size w (w.alloc (.cells #[.int .i64 op,.string t,.int .i64 n] 190)):=aE_
 have HA:=hd_ ((ha.past hB1).1.alloc (.cells #[.int .i64 op,.string t,.int .i64 n] 190))
 have HT:Hid (∀ z ∈ (⟨op,t,n⟩::a:List Nd),z.text.size<=maxLen):=hd_ (by
  intro z hz
  simp only [List.mem_cons] at hz
  rcases hz with rfl|hz
  ·exact ht
  ·exact ha.2.2 _ hz)
 have H0:=hd_ (ajW_ (w:=w.alloc (.cells #[.int .i64 op,.string t,.int .i64 n] 190)) (base:=w.heap.size) (e:=190) (size:=3) (g:=w.heap.size+1) (n:=1) #[.int .i64 op,.string t,.int .i64 n] si_ om_ (by simp [maxLen]) si_)
 have HAL:=hd_ (hB1.alloc hB1.size (.cells #[.int .i64 op,.string t,.int .i64 n] 190))
 clear ha hB1
 go_enter Tryz.func100,Tryz.ntmps100
 go_wp2_with (at_builtin;refine b4_ _ rfl (.tmp 8) (.tmp 9) _ rfl w.heap.size 190 i0 _ 3 32 Tryz.underlying109 hi0 hz0 hz1 hz2 rfl om_ _ 1 _ rfl H0.out _ A a.length c _ rfl HA.out (e1_ a) (by simp only [maxLen];omega) om_ so_ ?_;intro v7 w7 hown7 hg7 hat7;clear hat7;obtain ⟨A7,c7,hv7⟩:=b7_ hown7;subst hv7;have H7:=hd_ hown7;have HG7:=hd_ hg7;clear hown7 hg7)
 go_ret
 refine ⟨A7,c7,by rw [List.length_cons,Nat.add_comm];rfl,NdF.own (n:=1+a.length) (c:=c7) ?_ (by rw [List.length_cons,Nat.add_comm]) (by rw [List.length_cons];simp only [maxLen];omega) HT.out,mN_ HAL.out H0.out HG7.out so_⟩
 have h7:=H7.out
 rw [List.flatMap_cons]
 simpa [cJ_] using h7
theorem ai0_ {q:Nat} (h:¬ q<10) (t:ByteArray):(⟨(Lib.decDigits q).toArray⟩:ByteArray)++t=⟨(Lib.decDigits (q / 10)).toArray⟩++(⟨#[UInt8.ofNat (48+q % 10)]⟩++t):=by
 apply ByteArray.ext
 apply Array.toList_inj.1
 rw [Lib.decDigits,dif_neg h]
 simp [ByteArray.data_append]
theorem anX_ {d:Nat} (h:d<10):(⟨#[48,49,50,51,52,53,54,55,56,57]⟩:ByteArray).extract d (d+1)=⟨#[UInt8.ofNat (48+d)]⟩:=by
 have:d=0∨d=1∨d=2∨d=3∨d=4∨d=5∨d=6∨d=7∨d=8∨d=9:=by omega
 rcases this with rfl|rfl|rfl|rfl|rfl|rfl|rfl|rfl|rfl|rfl <;> decide +kernel
theorem ahZ_ {u q:Nat} (hu:u<=999999) {t:ByteArray} (h:(⟨(Lib.decDigits u).toArray⟩:ByteArray)=⟨(Lib.decDigits q).toArray⟩++t):t.size<=5:=by
 have h1:=congrArg ByteArray.size h
 have h2:=(eR_ (n:=(u:Int)) om_ om_).2
 rw [Lib.itoa_nonneg] at h2
 have h3:=Lib.nDigits_pos q
 rw [← Lib.decDigits_length] at h3
 rw [ByteArray.size_append] at h1
 simp only [ByteArray.size,List.size_toArray] at h1 ⊢
 omega
theorem amA_ (h:P:=by
 clear hcc
 have hcat:∀ w',(Op.stringOp .add ⟨#[cc]⟩ t).run Tryz.prog w'=.ok (.string (⟨#[cc]⟩++t)) w':=fun w'=>run_string_add_sum w' _ t (by show 1+t.size<=_;omega)
 first
 |
  go_wp2
  go_ret
  refine ⟨?_,rfl⟩
  rw [HQ.out,Lib.decDigits_one h10,HCC.out];rfl
  done
 |
  clear hd
  go_wp2
  go_round
  case rel=>exact ⟨q / 10,⟨#[cc]⟩++t,by go_num,rfl,by omega,hd_ (by rw [HQ.out,HST.out])⟩
  case measure=>exact me_):P:=h
theorem y5_ (u:Nat) (hu:u<=999999) (w:World):Calls Tryz.prog 57 #[.int .i64 (u:Nat)] w fun e w'=>e=.returned (.string ⟨(Lib.itoa (u:Nat)).toArray⟩)/\w=w':=by
 rw [Lib.itoa_nonneg]
 have HSZ:=hd_ (fun (q:Nat) (t:ByteArray) h=>ahZ_ (u:=u) (q:=q) (t:=t) hu h)
 have H9:Hid (∀ (d:Nat) (w':World),d<10->(Instr.slice 9 (.string ⟨#[48,49,50,51,52,53,54,55,56,57]⟩) (some (.int .i64 (d:Nat))) (some (.int .i64 ((d:Int)+1))) none).run Tryz.prog w'=.ok (.string ⟨#[UInt8.ofNat (48+d)]⟩) w'):=hd_ (fun d w' hd=>by
  have h:=tO_ (P:=Tryz.prog) w' 9 ⟨#[48,49,50,51,52,53,54,55,56,57]⟩ Tryz.underlying9 (d:Int) ((d:Int)+1) om_ om_ (by show (d:Int)+1<=10;omega)
  rw [h,show ((d:Int)).toNat=d by omega,show ((d:Int)+1).toNat=d+1 by omega,anX_ hd])
 go_enter Tryz.func57,Tryz.ntmps57
 go_wp2
 go_loop [0,3] (fun n s=>∃ (q:Nat) (t:ByteArray),n=.int .i64 q/\s=.string t/\q<=999999/\Hid ((⟨(Lib.decDigits u).toArray⟩:ByteArray)=⟨(Lib.decDigits q).toArray⟩++t)) (fun n _=>(intOf n).toNat)
 case atStart=>exact ⟨u,.empty,rfl,rfl,hu,hd_ si_⟩
 case round =>
  obtain ⟨q,t,rfl,rfl,hq,HQ⟩:=hrel
  have hts:=HSZ.out q t HQ.out
  by_cases h10:q<10
  ·obtain ⟨cc,hcc⟩:∃ cc,UInt8.ofNat (48+q)=cc:=⟨_,rfl⟩
   have hsl:=fun w'=>H9.out q w' h10
   rw [hcc] at hsl
   have HCC:=hd_ hcc
   exact amA_
  ·have h9:9<q:=by omega
   obtain ⟨d,hd⟩:∃ d,q % 10=d:=⟨_,rfl⟩
   have hd10:d<10:=by omega
   have hmod:(q:Int) % 10=(d:Int):=by omega
   have HST:=hd_ (ai0_ h10 t)
   rw [hd] at HST
   have hsl:=fun w'=>H9.out d w' hd10
   obtain ⟨cc,hcc⟩:∃ cc,UInt8.ofNat (48+d)=cc:=⟨_,rfl⟩
   rw [hcc] at hsl HST
   exact amA_
theorem f0_ {P:Program} {c:Code} {Q:Exit->Act->World->Prop} {a:Act} {w:World} (S:World->Prop) (hS:S w) (h:∀ w',S w'->Code.wp P c Q a w'):Code.wp P c Q a w:=h w hS
def sV_ (A:Option Addr) (c:Nat) (l:List Nd) (f:Nat):Prop :=
 ∀ (i:Nat) (v:Int) (w:World),v=i->Nds w w.heap.size A l->i<l.length->l.length<=i+f->a9_ l i≠9->Calls Tryz.prog 51 #[.slice A l.length c,.int .i64 v] w (dC_ (aC_ l f i) w)
theorem kS_ {l:List Nd} (hT:Tr l) (A:Option Addr) (c:Nat) {i:Nat} (hi:i<l.length) {v:Int} (hv:v=i) (w:World) (hN:Nds w w.heap.size A l) :
  Calls Tryz.prog 59 #[.slice A l.length c,.int .i64 v] w (Ret w (.int .i64 (a0_ l i:Nat))):=by
 subst hv
 have h:=x4_ l A c hT.one (l.length-i) i w hN om_ om_
 rw [hT.endOf hi] at h
 exact h
theorem oW_ (a:List Nd) (A:Option Addr) (c:Nat) (w:World) (ha:Nds w w.heap.size A a) (hsz:a.length<=10000) :
  Calls Tryz.prog 100 #[.agg #[.int .i64 7,.string .empty,.int .i64 2],.slice A a.length c] w (dC_ (d4_ a) w):=sH_ 7 2 .empty (by simp [maxLen]) a A c w ha hsz
theorem nR_ (a:List Nd) (A:Option Addr) (c:Nat) (w:World) (ha:Nds w w.heap.size A a) (hsz:a.length<=10000) :
  Calls Tryz.prog 100 #[.agg #[.int .i64 8,.string .empty,.int .i64 0],.slice A a.length c] w (dC_ (cA_ a) w):=sH_ 8 0 .empty (by simp [maxLen]) a A c w ha hsz
theorem gE_ {l:List Nd} (hT:Tr l) {f i:Nat} (hf:l.length<=i+f) (hi:i<l.length) (h9:a9_ l i≠9):(aC_ l f i).length<=900:=by
 have h1:a9_ l i=l[i].op:=by rw [a9_,aD_ hi]
 have h2:=mU_ hT f i hf hi om_
 have h3:=dI_ hi
 have h4:=hT.len
 omega
theorem eA_ {l:List Nd} (hT:Tr l) {i:Nat} (hi:i<l.length) (h0:0<i):a9_ l i≠9:=by
 have h1:a9_ l i=l[i].op:=by rw [a9_,aD_ hi]
 have:=hT.low hi h0
 omega
theorem m3_ {l:List Nd} (hT:Tr l) {f m a z:Nat} (h:bN_ l a m z) (h0:0<a) (hf:l.length<=a+f) (hz:z<=l.length):(bU_ (aC_ l f) (a0_ l) a m).length<=900:=by
 have h1:=(l9_ (g:=aC_ l f) m a z h (fun b hb hl=>mU_ hT f b om_ hl (by have:=hT.low hl om_;omega))).2
 have h4:=hT.len
 omega
theorem oZ_ {l:List Nd}:∀ {m a z:Nat},bN_ l a m z->a<=l.length->a<=z/\z<=l.length:=by
 intro m
 induction m with
 | zero=>intro a z h ha;rw [bN_] at h;omega
 | succ m ih =>
  intro a z h ha
  obtain ⟨h1,h2,h3⟩:=h
  have:=ih h3 (dI_ h1).2
  omega
theorem rQ_ (h:P:=by
 go_ret
 exact ⟨A_Q,c_Q,rfl,HV_Q.out,HB.out⟩
 done):P:=h
theorem am7_ (h:P:=by
 rw [hkd]
 clear hkd hbd
 go_enter Tryz.func99,Tryz.ntmps99
 go_wp2_with (first
  | (refine ds42 ?_;intro w1 A_d c_d HV_d HN HB hz S0))
 obtain ⟨e0,e1,e2⟩:w1.cell? ⟨b,off+p*3,none⟩=some (.int .i64 po)/\w1.cell? ⟨b,off+p*3+1,none⟩=some (.string pt)/\w1.cell? ⟨b,off+p*3+2,none⟩=some (.int .i64 pn):=⟨(HB.out.cell (p:=⟨b,off+p*3,none⟩) hb).trans d1,(HB.out.cell (p:=⟨b,off+p*3+1,none⟩) hb).trans d2,(HB.out.cell (p:=⟨b,off+p*3+2,none⟩) hb).trans d3⟩
 obtain ⟨k0,k1,k2⟩:w1.cell? ⟨b,off+k*3,none⟩=some (.int .i64 ko)/\w1.cell? ⟨b,off+k*3+1,none⟩=some (.string kt)/\w1.cell? ⟨b,off+k*3+2,none⟩=some (.int .i64 kn):=⟨(HB.out.cell (p:=⟨b,off+k*3,none⟩) hb).trans g1,(HB.out.cell (p:=⟨b,off+k*3+1,none⟩) hb).trans g2,(HB.out.cell (p:=⟨b,off+k*3+2,none⟩) hb).trans g3⟩
 have hbl:b<w1.heap.size:=Nat.lt_of_lt_of_le hb hz
 go_region_held3 (fun w'=>w'.cell? ⟨b,off+p*3,none⟩=some (.int .i64 po)/\w'.cell? ⟨b,off+p*3+1,none⟩=some (.string pt)/\w'.cell? ⟨b,off+p*3+2,none⟩=some (.int .i64 pn)/\w'.cell? ⟨b,off+k*3,none⟩=some (.int .i64 ko)/\w'.cell? ⟨b,off+k*3+1,none⟩=some (.string kt)/\w'.cell? ⟨b,off+k*3+2,none⟩=some (.int .i64 kn))
  (exact ⟨e0,e1,e2,k0,k1,k2⟩)
  (first|(go_at_call 109;refine (HBD.out _).mono ?_;rintro e w2 ⟨rfl,hB⟩;have e0:=(hB.cell (p:=⟨b,off+p*3,none⟩) hbl).trans e0;have e1:=(hB.cell (p:=⟨b,off+p*3+1,none⟩) hbl).trans e1;have e2:=(hB.cell (p:=⟨b,off+p*3+2,none⟩) hbl).trans e2;have k0:=(hB.cell (p:=⟨b,off+k*3,none⟩) hbl).trans k0;have k1:=(hB.cell (p:=⟨b,off+k*3+1,none⟩) hbl).trans k1;have k2:=(hB.cell (p:=⟨b,off+k*3+2,none⟩) hbl).trans k2;have hB:=bR_ hB;have HN:=hd_ (HN.out.past hB);have HV_d:=hd_ (HV_d.out.past hB);have HB:=hd_ (HB.out.trans (hB.mono hz));have hz:=Nat.le_trans hz hB.size))
 first
 |
  go_wp2_with (first
   | (go_at_call 98;(fail_if_success have z:=T0);refine (e3_ ⟨#[40]⟩ de_ _).mono ?_;rintro e w3 ⟨A_X,c_X,rfl,hn,hB⟩;have HV_X:=hd_ (hn.less hz);have HN:=hd_ (HN.out.past hB);have HV_d:=hd_ (HV_d.out.past hB);have HB:=hd_ (HB.out.trans (hB.mono hz));have hz:=Nat.le_trans hz hB.size;clear hn hB;have T0:=hd_ True.intro)
   | (go_at_call 98;(fail_if_success have z:=T1);have z:=T0;clear z;refine (e3_ ⟨#[41]⟩ de_ _).mono ?_;rintro e w4 ⟨A_Y,c_Y,rfl,hn,hB⟩;have HV_Y:=hd_ (hn.less hz);have HN:=hd_ (HN.out.past hB);have HV_d:=hd_ (HV_d.out.past hB);have HV_X:=hd_ (HV_X.out.past hB);have HB:=hd_ (HB.out.trans (hB.mono hz));have hz:=Nat.le_trans hz hB.size;clear hn hB;have T1:=hd_ True.intro)
   | (go_at_call 101;(fail_if_success have z:=T2);have z:=T1;clear z;refine (dO_ _ _ _ _ _ _ _ HV_d.out.1 HV_Y.out.1 (by (repeat (first|rw [aR_]|rw [aW_]|rw [b6_]|rw [aT_]|rw [aI_]));omega)).mono ?_;rintro e w5 ⟨A_Z,c_Z,rfl,hn,hB⟩;have HV_Z:=hd_ (hn.less hz);have HN:=hd_ (HN.out.past hB);have HV_X:=hd_ (HV_X.out.past hB);have HB:=hd_ (HB.out.trans (hB.mono hz));have hz:=Nat.le_trans hz hB.size;clear hn hB;have T2:=hd_ True.intro)
   | (go_at_call 101;(fail_if_success have z:=T3);have z:=T2;clear z;refine (dO_ _ _ _ _ _ _ _ HV_X.out.1 HV_Z.out.1 (by (repeat (first|rw [aR_]|rw [aW_]|rw [b6_]|rw [aT_]|rw [aI_]));omega)).mono ?_;rintro e w6 ⟨A_Q,c_Q,rfl,hn,hB⟩;have HV_Q:=hd_ (hn.less hz);have HN:=hd_ (HN.out.past hB);have HB:=hd_ (HB.out.trans (hB.mono hz));have hz:=Nat.le_trans hz hB.size;clear hn hB;have T3:=hd_ True.intro))
  exact rQ_
 |
  go_wp2_with fail
  go_ret
  exact ⟨A_d,c_d,rfl,HV_d.out,HB.out⟩):P:=h
theorem y8_ {A:Option Addr} {c f:Nat} {l:List Nd} (hT:Tr l) (ih:sV_ A c l f) (p k:Nat) (vp vk:Int) (sec:Bool) (w:World) (hvp:vp=p) (hvk:vk=k) (hN:Nds w w.heap.size A l) (hp:p<l.length) (hk:k<l.length) (h0:0<k) (hf:l.length<=k+f) :
  Calls Tryz.prog 99 #[.slice A l.length c,.int .i64 vp,.int .i64 vk,.bool sec] w (dC_ (dF_ (a9_ l p) (a9_ l k) sec (aC_ l f k)) w):=by
 subst hvp hvk
 have h9:=eA_ hT hk h0
 have hdl:=gE_ hT hf hk h9
 have HI:=hd_ (fun w' hw'=>ih k k w' rfl hw' hk hf h9)
 obtain ⟨b,off,po,pt,pn,rfl,hb,hnd,hts,d1,d2,d3⟩:=hN.node (Below.refl _ _) hp
 obtain ⟨b',off',ko,kt,kn,hq,hb',hnk,hts',g1,g2,g3⟩:=hN.node (Below.refl _ _) hk
 cases hq
 have hpe:a9_ l p=po:=by rw [a9_,aD_ hp,hnd]
 have hke:a9_ l k=ko:=by rw [a9_,aD_ hk,hnk]
 rw [hpe,hke]
 generalize aC_ l f k=d at *
 have hm:=hT.len
 have HN:=hd_ hN
 have HBD:=hd_ (fun w'=>sF_ po pn ko kn pt kt sec w')
 have HB:Hid (Below w.heap.size w w):=hd_ (Below.refl _ _)
 have hz:w.heap.size<=w.heap.size:=Nat.le_refl _
 clear hN hnd hnk hpe hke ih hT h9 hf hb'
 cases hbd:bV_ po ko sec with
 | true =>
  rw [hbd] at HBD
  have hkd:dF_ po ko sec d=aN_ (aQ_ ⟨#[40]⟩) (aN_ d (aQ_ ⟨#[41]⟩)):=by simp [dF_,hbd]
  exact am7_
 | false =>
  rw [hbd] at HBD
  have hkd:dF_ po ko sec d=d:=by simp [dF_,hbd]
  exact am7_
theorem v9_ {A:Option Addr} {c f:Nat} {l:List Nd} (hT:Tr l) (ih:sV_ A c l f) :
  ∀ (m a z:Nat) (va v:Int) (w:World),bN_ l a (m+1) z->0<a->l.length<=a+f->Nds w w.heap.size A l->va=a->v=(m:Int)+1->v<=100 ->
   Calls Tryz.prog 102 #[.slice A l.length c,.int .i64 va,.int .i64 v] w (dC_ (bU_ (aC_ l f) (a0_ l) a (m+1)) w):=by
 intro m
 induction m with
 | zero =>
  intro a z va v w hP h0 hf hN hva hv hv6
  obtain ⟨q1,q2,q3⟩:=hP
  rw [show bU_ (aC_ l f) (a0_ l) a (0+1)=aC_ l f a by simp [bU_]]
  have HI:=hd_ (fun w' hw'=>ih a va w' hva hw' q1 hf (eA_ hT q1 h0))
  have HN:=hd_ hN
  obtain rfl:v=1:=by omega
  generalize aC_ l f a=d at *
  have HB:Hid (Below w.heap.size w w):=hd_ (Below.refl _ _)
  have hz:w.heap.size<=w.heap.size:=Nat.le_refl _
  clear hN ih hT q3 hv hva
  go_enter Tryz.func102,Tryz.ntmps102
  go_wp2_with (first
   | (refine ds42 ?_;intro w1 A_d c_d HV_d HN HB hz S0))
  go_ret
  exact ⟨A_d,c_d,rfl,HV_d.out,HB.out⟩
 | succ m im =>
  intro a z va v w hP h0 hf hN hva hv hv6
  have hzl:=(oZ_ hP (by have:=hP.1;omega)).2
  obtain ⟨q1,q2,q3⟩:=hP
  have hks:=m3_ (f:=f) hT q3 om_ om_ hzl
  have hdl:=gE_ hT hf q1 (eA_ hT q1 h0)
  rw [show bU_ (aC_ l f) (a0_ l) a (m+1+1)=aN_ (aN_ (aC_ l f a) (aQ_ ⟨#[44]⟩)) (aN_ (opN 2) (bU_ (aC_ l f) (a0_ l) (a0_ l a) (m+1))) by simp [bU_]]
  have HI:=hd_ (fun w' hw'=>ih a va w' hva hw' q1 hf (eA_ hT q1 h0))
  have HE:=hd_ (fun w' hw'=>kS_ hT A c q1 hva w' hw')
  have HK:=hd_ (fun w' hw'=>im (a0_ l a) z (a0_ l a:Nat) (v-1) w' q3 om_ om_ hw' rfl om_ om_)
  have HN:=hd_ hN
  have hv1:(v==1)=false:=by simp;omega
  have hv2:2<=v:=by omega
  generalize bU_ (aC_ l f) (a0_ l) (a0_ l a) (m+1)=K at *
  generalize aC_ l f a=d at *
  generalize a0_ l a=z' at *
  have HB:Hid (Below w.heap.size w w):=hd_ (Below.refl _ _)
  have hz:w.heap.size<=w.heap.size:=Nat.le_refl _
  clear hN ih hT q3 hv im hva
  go_enter Tryz.func102,Tryz.ntmps102
  go_upto_region 5 with (first
   | (refine ds42 ?_;intro w1 A_d c_d HV_d HN HB hz S0))
  have hal:Below w1.heap.size w1 (w1.alloc (.cells #[.int .i64 2,.string .empty,.int .i64 0] 190)):=aE_
  have hlit:NdF w1.heap.size (w1.alloc (.cells #[.int .i64 2,.string .empty,.int .i64 0] 190)) (some ⟨w1.heap.size,0,none⟩) (opN 2):=NdF.lit w1 ⟨2,.empty,0⟩ (by simp [maxLen])
  refine f0_ (fun wy=>NdF w.heap.size wy (some ⟨w1.heap.size,0,none⟩) (opN 2)/\NdF w.heap.size wy A_d d/\Nds wy wy.heap.size A l/\Below w.heap.size w wy) ⟨hlit.less hz,HV_d.out.past hal,HN.out.past hal,HB.out.trans (hal.mono hz)⟩ ?_
  clear hal hlit HV_d HN HB
  rintro wb ⟨h1,h2,h3,h4⟩
  have HV_bl:=hd_ h1;have HV_d:=hd_ h2;have HN:=hd_ h3;have HB:=hd_ h4
  have hz:=h4.size
  clear h1 h2 h3 h4
  have hone:(opN 2).length=1:=rfl
  go_wp2_with (first
   | (go_at_call 98;(fail_if_success have z:=T0);refine (e3_ ⟨#[44]⟩ de_ _).mono ?_;rintro e w3 ⟨A_X,c_X,rfl,hn,hB⟩;have HV_X:=hd_ (hn.less hz);have HN:=hd_ (HN.out.past hB);have HV_d:=hd_ (HV_d.out.past hB);have HV_bl:=hd_ (HV_bl.out.past hB);have HB:=hd_ (HB.out.trans (hB.mono hz));have hz:=Nat.le_trans hz hB.size;clear hn hB;have T0:=hd_ True.intro)
   | (go_at_call 101;(fail_if_success have z:=T1);have z:=T0;clear z;refine (dO_ _ _ _ _ _ _ _ HV_d.out.1 HV_X.out.1 (by (repeat (first|rw [aR_]|rw [aW_]|rw [b6_]|rw [aT_]|rw [aI_]));omega)).mono ?_;rintro e w4 ⟨A_Y,c_Y,rfl,hn,hB⟩;have HV_Y:=hd_ (hn.less hz);have HN:=hd_ (HN.out.past hB);have HV_bl:=hd_ (HV_bl.out.past hB);have HB:=hd_ (HB.out.trans (hB.mono hz));have hz:=Nat.le_trans hz hB.size;clear hn hB;have T1:=hd_ True.intro)
   | (go_at_call 59;(fail_if_success have z:=T2);have z:=T1;clear z;refine (HE.out _ HN.out).mono ?_;rintro e w5 ⟨rfl,hB⟩;have HN:=hd_ (HN.out.past hB);have HV_bl:=hd_ (HV_bl.out.past hB);have HV_Y:=hd_ (HV_Y.out.past hB);have HB:=hd_ (HB.out.trans (hB.mono hz));have hz:=Nat.le_trans hz hB.size;clear hB;have T2:=hd_ True.intro)
   | (go_at_call 102;(fail_if_success have z:=T3);have z:=T2;clear z;refine (HK.out _ HN.out).mono ?_;rintro e w6 ⟨A_K,c_K,rfl,hn,hB⟩;have HV_K:=hd_ (hn.less hz);have HN:=hd_ (HN.out.past hB);have HV_bl:=hd_ (HV_bl.out.past hB);have HV_Y:=hd_ (HV_Y.out.past hB);have HB:=hd_ (HB.out.trans (hB.mono hz));have hz:=Nat.le_trans hz hB.size;clear hn hB;have T3:=hd_ True.intro)
   | (go_at_call 101;(fail_if_success have z:=T4);have z:=T3;clear z;refine (dO_ _ _ _ _ _ _ _ HV_bl.out.1 HV_K.out.1 (by (repeat (first|rw [aR_]|rw [aW_]|rw [b6_]|rw [aT_]|rw [aI_]));omega)).mono ?_;rintro e w7 ⟨A_V,c_V,rfl,hn,hB⟩;have HV_V:=hd_ (hn.less hz);have HN:=hd_ (HN.out.past hB);have HV_Y:=hd_ (HV_Y.out.past hB);have HB:=hd_ (HB.out.trans (hB.mono hz));have hz:=Nat.le_trans hz hB.size;clear hn hB;have T4:=hd_ True.intro)
   | (go_at_call 101;(fail_if_success have z:=T5);have z:=T4;clear z;refine (dO_ _ _ _ _ _ _ _ HV_Y.out.1 HV_V.out.1 (by (repeat (first|rw [aR_]|rw [aW_]|rw [b6_]|rw [aT_]|rw [aI_]));omega)).mono ?_;rintro e w8 ⟨A_Q,c_Q,rfl,hn,hB⟩;have HV_Q:=hd_ (hn.less hz);have HN:=hd_ (HN.out.past hB);have HB:=hd_ (HB.out.trans (hB.mono hz));have hz:=Nat.le_trans hz hB.size;clear hn hB;have T5:=hd_ True.intro))
  go_ret
  exact ⟨A_Q,c_Q,rfl,HV_Q.out,HB.out⟩
structure RfN (A:Option Addr) (l:List Nd) (op:Int) (t:ByteArray) (n:Int) (w0 w:World):Prop where
 nd:w.heap[w0.heap.size]?=some (.cells #[.int .i64 op,.string t,.int .i64 n] 61 (0,0))
 gr:w.heap[w0.heap.size+3]?=some (.cells #[.int .i64 8,.string .empty,.int .i64 0] 190 (0,0))
 dp:w.heap[w0.heap.size+4]?=some (.cells #[.int .i64 7,.string .empty,.int .i64 2] 190 (0,0))
 bl:NdF w0.heap.size w (some ⟨w0.heap.size+1,0,none⟩) (opN 2)
 so:NdF w0.heap.size w (some ⟨w0.heap.size+2,0,none⟩) (opN 3)
 nds:Nds w w.heap.size A l
 bel:Below w0.heap.size w0 w
theorem NdF.litG (w:World) (d:Nd) (g:Nat) (hg:w.heap.size=g) (hd:d.text.size<=maxLen):NdF g (w.alloc (.cells #[.int .i64 d.op,.string d.text,.int .i64 d.n] 190)) (some ⟨g,0,none⟩) [d]:=by
 subst hg;exact NdF.lit w d hd
theorem hJ_ {A:Option Addr} {l:List Nd} (op:Int) (t:ByteArray) (n:Int) (w:World) (hN:Nds w w.heap.size A l):RfN A l op t n w (((((w.alloc (.cells #[.int .i64 op,.string t,.int .i64 n] 61)).alloc (.cells #[.int .i64 2,.string .empty,.int .i64 0] 190)).alloc (.cells #[.int .i64 3,.string .empty,.int .i64 0] 190)).alloc (.cells #[.int .i64 8,.string .empty,.int .i64 0] 190)).alloc (.cells #[.int .i64 7,.string .empty,.int .i64 2] 190)):=by
 have b1:Below w.heap.size w (w.alloc (.cells #[.int .i64 op,.string t,.int .i64 n] 61)):=aE_
 have z1:(w.alloc (.cells #[.int .i64 op,.string t,.int .i64 n] 61)).heap.size=w.heap.size+1:=by simp
 have n1:(w.alloc (.cells #[.int .i64 op,.string t,.int .i64 n] 61)).heap[w.heap.size]?=some (.cells #[.int .i64 op,.string t,.int .i64 n] 61 (0,0)):=aG_ rfl
 generalize w.alloc (.cells #[.int .i64 op,.string t,.int .i64 n] 61)=w1 at *
 have b2:Below w1.heap.size w1 (w1.alloc (.cells #[.int .i64 2,.string .empty,.int .i64 0] 190)):=aE_
 have z2:(w1.alloc (.cells #[.int .i64 2,.string .empty,.int .i64 0] 190)).heap.size=w.heap.size+2:=by simp;omega
 have l2:=NdF.litG w1 ⟨2,.empty,0⟩ (w.heap.size+1) om_ (by simp [maxLen])
 simp only at l2
 generalize w1.alloc (.cells #[.int .i64 2,.string .empty,.int .i64 0] 190)=w2 at *
 have b3:Below w2.heap.size w2 (w2.alloc (.cells #[.int .i64 3,.string .empty,.int .i64 0] 190)):=aE_
 have z3:(w2.alloc (.cells #[.int .i64 3,.string .empty,.int .i64 0] 190)).heap.size=w.heap.size+3:=by simp;omega
 have l3:=NdF.litG w2 ⟨3,.empty,0⟩ (w.heap.size+2) om_ (by simp [maxLen])
 simp only at l3
 generalize w2.alloc (.cells #[.int .i64 3,.string .empty,.int .i64 0] 190)=w3 at *
 have b4:Below w3.heap.size w3 (w3.alloc (.cells #[.int .i64 8,.string .empty,.int .i64 0] 190)):=aE_
 have z4:(w3.alloc (.cells #[.int .i64 8,.string .empty,.int .i64 0] 190)).heap.size=w.heap.size+4:=by simp;omega
 have n4:(w3.alloc (.cells #[.int .i64 8,.string .empty,.int .i64 0] 190)).heap[w.heap.size+3]?=some (.cells #[.int .i64 8,.string .empty,.int .i64 0] 190 (0,0)):=aG_ om_
 generalize w3.alloc (.cells #[.int .i64 8,.string .empty,.int .i64 0] 190)=w4 at *
 have b5:Below w4.heap.size w4 (w4.alloc (.cells #[.int .i64 7,.string .empty,.int .i64 2] 190)):=aE_
 have n5:(w4.alloc (.cells #[.int .i64 7,.string .empty,.int .i64 2] 190)).heap[w.heap.size+4]?=some (.cells #[.int .i64 7,.string .empty,.int .i64 2] 190 (0,0)):=aG_ om_
 generalize w4.alloc (.cells #[.int .i64 7,.string .empty,.int .i64 2] 190)=w5 at *
 refine ⟨?_, ?_,n5, ?_, ?_, ?_, ?_⟩
 ·exact (b5.block _ om_).trans ((b4.block _ om_).trans ((b3.block _ om_).trans ((b2.block _ om_).trans n1)))
 ·exact (b5.block _ om_).trans n4
 ·exact ((((l2.past b3).past b4).past b5)).less om_
 ·exact (((l3.past b4).past b5)).less om_
 ·exact ((((hN.past b1).past b2).past b3).past b4).past b5
 ·exact (((b1.trans (b2.mono om_)).trans (b3.mono om_)).trans (b4.mono om_)).trans (b5.mono om_)
theorem RfN.cells {A:Option Addr} {l:List Nd} {op n:Int} {t:ByteArray} {w0 w:World} (x:RfN A l op t n w0 w) :
  (w.cell? ⟨w0.heap.size,0,none⟩=some (.int .i64 op)/\w.cell? ⟨w0.heap.size,1,none⟩=some (.string t)/\w.cell? ⟨w0.heap.size,2,none⟩=some (.int .i64 n)) /\
  (w.cell? ⟨w0.heap.size+3,0,none⟩=some (.int .i64 8)/\w.cell? ⟨w0.heap.size+3,1,none⟩=some (.string .empty)/\w.cell? ⟨w0.heap.size+3,2,none⟩=some (.int .i64 0)) /\
  (w.cell? ⟨w0.heap.size+4,0,none⟩=some (.int .i64 7)/\w.cell? ⟨w0.heap.size+4,1,none⟩=some (.string .empty)/\w.cell? ⟨w0.heap.size+4,2,none⟩=some (.int .i64 2)):=by
 refine ⟨⟨?_, ?_, ?_⟩,⟨?_, ?_, ?_⟩,⟨?_, ?_, ?_⟩⟩ <;> first|(rw [Lib.cell_of_heap x.nd];rfl)|(rw [Lib.cell_of_heap x.gr];rfl)|(rw [Lib.cell_of_heap x.dp];rfl)
theorem mV_ (h:P:=by
 clear HR d1 d2 d3
 rintro w1 hy
 obtain ⟨⟨y0,y1,y2⟩,⟨g0,g1,g2⟩,⟨p0,p1,p2⟩⟩:=hy.cells
 have HV_bl:=hd_ hy.bl;have HV_so:=hd_ hy.so;have HN:=hd_ hy.nds;have HB:=hd_ hy.bel;have hz:=hy.bel.size
 have hlt:w.heap.size+4<w1.heap.size:=(Array.getElem?_eq_some_iff.1 hy.dp).1
 have hob:(opN 2).length=1:=rfl
 have hos:(opN 3).length=1:=rfl
 clear hy
 first
 |
  go_wp2_with (first
   | (go_at_call 57;refine (HIT.out _).mono ?_;rintro e w3 ⟨rfl,rfl⟩)
   | (go_at_call 98;refine (e3_ T HSZ.out _).mono ?_;rintro e w4 ⟨A_Q,c_Q,rfl,hn,hB⟩;have HV_Q:=hd_ (hn.less hz);have HB:=hd_ (HB.out.trans (hB.mono hz));clear hn hB))
  exact rQ_
 |
  go_wp2_with (go_at_call 98;refine (e3_ t hts _).mono ?_;rintro e w4 ⟨A_Q,c_Q,rfl,hn,hB⟩;have HV_Q:=hd_ (hn.less hz);have HB:=hd_ (HB.out.trans (hB.mono hz));clear hn hB)
  exact rQ_
 |
  go_wp2_with (first
   | (go_at_call 51;(fail_if_success have z:=S0);refine (HD.out _ HN.out).mono ?_;rintro e w2 ⟨A_d,c_d,rfl,hn,hB⟩;have HV_d:=hd_ (hn.less hz);have HN:=hd_ (HN.out.past hB);have HB:=hd_ (HB.out.trans (hB.mono hz));have hz:=Nat.le_trans hz hB.size;clear hn hB;have S0:=hd_ True.intro)
   | (go_at_call 98;(fail_if_success have z:=S1);have z:=S0;clear z;refine (e3_ ⟨#[59]⟩ de_ _).mono ?_;rintro e w3 ⟨A_W,c_W,rfl,hn,hB⟩;have HV_W:=hd_ (hn.less hz);have HN:=hd_ (HN.out.past hB);have HV_d:=hd_ (HV_d.out.past hB);have HB:=hd_ (HB.out.trans (hB.mono hz));have hz:=Nat.le_trans hz hB.size;clear hn hB;have S1:=hd_ True.intro)
   | (go_at_call 101;(fail_if_success have z:=S2);have z:=S1;clear z;refine (dO_ _ _ _ _ _ _ _ HV_d.out.1 HV_W.out.1 (by (repeat (first|rw [aR_]|rw [aW_]|rw [b6_]|rw [aT_]|rw [aI_]));omega)).mono ?_;rintro e w4 ⟨A_Q,c_Q,rfl,hn,hB⟩;have HV_Q:=hd_ (hn.less hz);have HN:=hd_ (HN.out.past hB);have HB:=hd_ (HB.out.trans (hB.mono hz));have hz:=Nat.le_trans hz hB.size;clear hn hB;have S2:=hd_ True.intro))
  exact rQ_
 |
  go_wp2_with (go_at_call 98;refine (e3_ _ HSZ.out _).mono ?_;rintro e w4 ⟨A_Q,c_Q,rfl,hn,hB⟩;have HV_Q:=hd_ (hn.less hz);have HB:=hd_ (HB.out.trans (hB.mono hz));clear hn hB)
  exact rQ_
 |
  go_wp2_with (first
   | (go_at_call 99;(fail_if_success have z:=S0);refine (HKx.out _ HN.out).mono ?_;rintro e w2 ⟨A_x,c_x,rfl,hn,hB⟩;have HV_bl:=hd_ (HV_bl.out.past hB);have HV_x:=hd_ (hn.less hz);have HN:=hd_ (HN.out.past hB);have y0:=(hB.cell (p:=⟨w.heap.size,0,none⟩) so_).trans y0;have y1:=(hB.cell (p:=⟨w.heap.size,1,none⟩) so_).trans y1;have y2:=(hB.cell (p:=⟨w.heap.size,2,none⟩) so_).trans y2;have g0:=(hB.cell (p:=⟨w.heap.size+3,0,none⟩) so_).trans g0;have g1:=(hB.cell (p:=⟨w.heap.size+3,1,none⟩) so_).trans g1;have g2:=(hB.cell (p:=⟨w.heap.size+3,2,none⟩) so_).trans g2;have p0:=(hB.cell (p:=⟨w.heap.size+4,0,none⟩) so_).trans p0;have p1:=(hB.cell (p:=⟨w.heap.size+4,1,none⟩) so_).trans p1;have p2:=(hB.cell (p:=⟨w.heap.size+4,2,none⟩) so_).trans p2;have HB:=hd_ (HB.out.trans (hB.mono hz));have hz:=Nat.le_trans hz hB.size;have hlt:=Nat.lt_of_lt_of_le hlt hB.size;clear hn hB;have S0:=hd_ True.intro)
   | (go_at_call 59;(fail_if_success have z:=S1);have z:=S0;clear z;refine (HE.out _ HN.out).mono ?_;rintro e w3 ⟨rfl,hB⟩;have HV_x:=hd_ (HV_x.out.past hB);have HV_bl:=hd_ (HV_bl.out.past hB);have HN:=hd_ (HN.out.past hB);have y0:=(hB.cell (p:=⟨w.heap.size,0,none⟩) so_).trans y0;have y1:=(hB.cell (p:=⟨w.heap.size,1,none⟩) so_).trans y1;have y2:=(hB.cell (p:=⟨w.heap.size,2,none⟩) so_).trans y2;have g0:=(hB.cell (p:=⟨w.heap.size+3,0,none⟩) so_).trans g0;have g1:=(hB.cell (p:=⟨w.heap.size+3,1,none⟩) so_).trans g1;have g2:=(hB.cell (p:=⟨w.heap.size+3,2,none⟩) so_).trans g2;have p0:=(hB.cell (p:=⟨w.heap.size+4,0,none⟩) so_).trans p0;have p1:=(hB.cell (p:=⟨w.heap.size+4,1,none⟩) so_).trans p1;have p2:=(hB.cell (p:=⟨w.heap.size+4,2,none⟩) so_).trans p2;have HB:=hd_ (HB.out.trans (hB.mono hz));have hz:=Nat.le_trans hz hB.size;have hlt:=Nat.lt_of_lt_of_le hlt hB.size;clear hB;have S1:=hd_ True.intro)
   | (go_at_call 99;(fail_if_success have z:=S2);have z:=S1;clear z;refine (HKy.out _ HN.out).mono ?_;rintro e w4 ⟨A_y,c_y,rfl,hn,hB⟩;have HV_x:=hd_ (HV_x.out.past hB);have HV_bl:=hd_ (HV_bl.out.past hB);have HV_y:=hd_ (hn.less hz);have HN:=hd_ (HN.out.past hB);have y0:=(hB.cell (p:=⟨w.heap.size,0,none⟩) so_).trans y0;have y1:=(hB.cell (p:=⟨w.heap.size,1,none⟩) so_).trans y1;have y2:=(hB.cell (p:=⟨w.heap.size,2,none⟩) so_).trans y2;have g0:=(hB.cell (p:=⟨w.heap.size+3,0,none⟩) so_).trans g0;have g1:=(hB.cell (p:=⟨w.heap.size+3,1,none⟩) so_).trans g1;have g2:=(hB.cell (p:=⟨w.heap.size+3,2,none⟩) so_).trans g2;have p0:=(hB.cell (p:=⟨w.heap.size+4,0,none⟩) so_).trans p0;have p1:=(hB.cell (p:=⟨w.heap.size+4,1,none⟩) so_).trans p1;have p2:=(hB.cell (p:=⟨w.heap.size+4,2,none⟩) so_).trans p2;have HB:=hd_ (HB.out.trans (hB.mono hz));have hz:=Nat.le_trans hz hB.size;have hlt:=Nat.lt_of_lt_of_le hlt hB.size;clear hn hB;have S2:=hd_ True.intro))
  go_region_held3 (fun w'=>w'.cell? ⟨w.heap.size+3,0,none⟩=some (.int .i64 8)/\w'.cell? ⟨w.heap.size+3,1,none⟩=some (.string .empty)/\w'.cell? ⟨w.heap.size+3,2,none⟩=some (.int .i64 0)/\w'.cell? ⟨w.heap.size+4,0,none⟩=some (.int .i64 7)/\w'.cell? ⟨w.heap.size+4,1,none⟩=some (.string .empty)/\w'.cell? ⟨w.heap.size+4,2,none⟩=some (.int .i64 2))
   (exact ⟨g0,g1,g2,p0,p1,p2⟩)
   (first
   | (go_at_call 98;(fail_if_success have z:=T0);refine (e3_ _ (by simp only [maxLen];decide) _).mono ?_;rintro e w5 ⟨A_O,c_O,rfl,hn,hB⟩;have hB:=bR_ hB;have HV_O:=hd_ (hn.less hz);have HN:=hd_ (HN.out.past hB);have HV_bl:=hd_ (HV_bl.out.past hB);have HV_x:=hd_ (HV_x.out.past hB);have HV_y:=hd_ (HV_y.out.past hB);have g0:=(hB.cell (p:=⟨w.heap.size+3,0,none⟩) so_).trans g0;have g1:=(hB.cell (p:=⟨w.heap.size+3,1,none⟩) so_).trans g1;have g2:=(hB.cell (p:=⟨w.heap.size+3,2,none⟩) so_).trans g2;have p0:=(hB.cell (p:=⟨w.heap.size+4,0,none⟩) so_).trans p0;have p1:=(hB.cell (p:=⟨w.heap.size+4,1,none⟩) so_).trans p1;have p2:=(hB.cell (p:=⟨w.heap.size+4,2,none⟩) so_).trans p2;have HB:=hd_ (HB.out.trans (hB.mono hz));have hz:=Nat.le_trans hz hB.size;have hlt:=Nat.lt_of_lt_of_le hlt hB.size;clear hn hB;have T0:=hd_ True.intro)
   | (go_at_call 101;(fail_if_success have z:=T1);have z:=T0;clear z;refine (dO_ _ _ _ _ _ _ _ HV_O.out.1 HV_y.out.1 (by (repeat (first|rw [aR_]|rw [aW_]|rw [b6_]|rw [aT_]|rw [aI_]));omega)).mono ?_;rintro e w6 ⟨A_F,c_F,rfl,hn,hB⟩;have HV_F:=hd_ (hn.less hz);have HN:=hd_ (HN.out.past hB);have HV_bl:=hd_ (HV_bl.out.past hB);have HV_x:=hd_ (HV_x.out.past hB);have g0:=(hB.cell (p:=⟨w.heap.size+3,0,none⟩) so_).trans g0;have g1:=(hB.cell (p:=⟨w.heap.size+3,1,none⟩) so_).trans g1;have g2:=(hB.cell (p:=⟨w.heap.size+3,2,none⟩) so_).trans g2;have p0:=(hB.cell (p:=⟨w.heap.size+4,0,none⟩) so_).trans p0;have p1:=(hB.cell (p:=⟨w.heap.size+4,1,none⟩) so_).trans p1;have p2:=(hB.cell (p:=⟨w.heap.size+4,2,none⟩) so_).trans p2;have HB:=hd_ (HB.out.trans (hB.mono hz));have hz:=Nat.le_trans hz hB.size;have hlt:=Nat.lt_of_lt_of_le hlt hB.size;clear hn hB;have T1:=hd_ True.intro)
   | (go_at_call 101;(fail_if_success have z:=T2);have z:=T1;clear z;refine (dO_ _ _ _ _ _ _ _ HV_bl.out.1 HV_F.out.1 (by (repeat (first|rw [aR_]|rw [aW_]|rw [b6_]|rw [aT_]|rw [aI_]));omega)).mono ?_;rintro e w7 ⟨A_G,c_G,rfl,hn,hB⟩;have HV_G:=hd_ (hn.less hz);have HN:=hd_ (HN.out.past hB);have HV_x:=hd_ (HV_x.out.past hB);have g0:=(hB.cell (p:=⟨w.heap.size+3,0,none⟩) so_).trans g0;have g1:=(hB.cell (p:=⟨w.heap.size+3,1,none⟩) so_).trans g1;have g2:=(hB.cell (p:=⟨w.heap.size+3,2,none⟩) so_).trans g2;have p0:=(hB.cell (p:=⟨w.heap.size+4,0,none⟩) so_).trans p0;have p1:=(hB.cell (p:=⟨w.heap.size+4,1,none⟩) so_).trans p1;have p2:=(hB.cell (p:=⟨w.heap.size+4,2,none⟩) so_).trans p2;have HB:=hd_ (HB.out.trans (hB.mono hz));have hz:=Nat.le_trans hz hB.size;have hlt:=Nat.lt_of_lt_of_le hlt hB.size;clear hn hB;have T2:=hd_ True.intro)
   | (go_at_call 100;(fail_if_success have z:=T3);have z:=T2;clear z;refine (oW_ _ _ _ _ HV_G.out.1 (by (repeat (first|rw [aR_]|rw [aW_]|rw [b6_]|rw [aT_]|rw [aI_]));omega)).mono ?_;rintro e w8 ⟨A_H,c_H,rfl,hn,hB⟩;have HV_H:=hd_ (hn.less hz);have HN:=hd_ (HN.out.past hB);have HV_x:=hd_ (HV_x.out.past hB);have g0:=(hB.cell (p:=⟨w.heap.size+3,0,none⟩) so_).trans g0;have g1:=(hB.cell (p:=⟨w.heap.size+3,1,none⟩) so_).trans g1;have g2:=(hB.cell (p:=⟨w.heap.size+3,2,none⟩) so_).trans g2;have p0:=(hB.cell (p:=⟨w.heap.size+4,0,none⟩) so_).trans p0;have p1:=(hB.cell (p:=⟨w.heap.size+4,1,none⟩) so_).trans p1;have p2:=(hB.cell (p:=⟨w.heap.size+4,2,none⟩) so_).trans p2;have HB:=hd_ (HB.out.trans (hB.mono hz));have hz:=Nat.le_trans hz hB.size;have hlt:=Nat.lt_of_lt_of_le hlt hB.size;clear hn hB;have T3:=hd_ True.intro)
   | (go_at_call 101;(fail_if_success have z:=T4);have z:=T3;clear z;refine (dO_ _ _ _ _ _ _ _ HV_x.out.1 HV_H.out.1 (by (repeat (first|rw [aR_]|rw [aW_]|rw [b6_]|rw [aT_]|rw [aI_]));omega)).mono ?_;rintro e w9 ⟨A_J,c_J,rfl,hn,hB⟩;have HV_J:=hd_ (hn.less hz);have HN:=hd_ (HN.out.past hB);have g0:=(hB.cell (p:=⟨w.heap.size+3,0,none⟩) so_).trans g0;have g1:=(hB.cell (p:=⟨w.heap.size+3,1,none⟩) so_).trans g1;have g2:=(hB.cell (p:=⟨w.heap.size+3,2,none⟩) so_).trans g2;have p0:=(hB.cell (p:=⟨w.heap.size+4,0,none⟩) so_).trans p0;have p1:=(hB.cell (p:=⟨w.heap.size+4,1,none⟩) so_).trans p1;have p2:=(hB.cell (p:=⟨w.heap.size+4,2,none⟩) so_).trans p2;have HB:=hd_ (HB.out.trans (hB.mono hz));have hz:=Nat.le_trans hz hB.size;have hlt:=Nat.lt_of_lt_of_le hlt hB.size;clear hn hB;have T4:=hd_ True.intro)
   | (go_at_call 100;(fail_if_success have z:=T5);have z:=T4;clear z;refine (nR_ _ _ _ _ HV_J.out.1 (by (repeat (first|rw [aR_]|rw [aW_]|rw [b6_]|rw [aT_]|rw [aI_]));omega)).mono ?_;rintro e w10 ⟨A_Q,c_Q,rfl,hn,hB⟩;have HV_Q:=hd_ (hn.less hz);have HN:=hd_ (HN.out.past hB);have g0:=(hB.cell (p:=⟨w.heap.size+3,0,none⟩) so_).trans g0;have g1:=(hB.cell (p:=⟨w.heap.size+3,1,none⟩) so_).trans g1;have g2:=(hB.cell (p:=⟨w.heap.size+3,2,none⟩) so_).trans g2;have p0:=(hB.cell (p:=⟨w.heap.size+4,0,none⟩) so_).trans p0;have p1:=(hB.cell (p:=⟨w.heap.size+4,1,none⟩) so_).trans p1;have p2:=(hB.cell (p:=⟨w.heap.size+4,2,none⟩) so_).trans p2;have HB:=hd_ (HB.out.trans (hB.mono hz));have hz:=Nat.le_trans hz hB.size;have hlt:=Nat.lt_of_lt_of_le hlt hB.size;clear hn hB;have T5:=hd_ True.intro))
  go_wp2
  go_ret
  exact ⟨A_Q,c_Q,rfl,HV_Q.out,HB.out⟩):P:=h
theorem w7_ (h:P:=by
 clear hsz
 obtain ⟨b,off,op,t',n',rfl,hb,hnd',hts,d1,d2,d3⟩:=hN.node (Below.refl _ _) hi
 rw [hnd] at hnd'
 cases hnd'
 first
 |
  have HR:=hd_ (hJ_ 1 t (u:Nat) w hN)
  have k1:IntKind.i64.wrap ((i:Int)+1)=(i:Int)+1:=IntWalk.i64_in _ om_
  clear hN hnd
  go_enter Tryz.func51,Tryz.ntmps51
  go_upto_region 6 with (fail)
  refine f0_ (fun wy=>RfN (some ⟨b,off,none⟩) l 1 t (u:Nat) w wy) HR.out ?_
  exact mV_
  done
 |
  have HR:=hd_ (hJ_ 3 t 0 w hN)
  have k1:IntKind.i64.wrap ((i:Int)+1)=(i:Int)+1:=IntWalk.i64_in _ om_
  clear hN hnd
  go_enter Tryz.func51,Tryz.ntmps51
  go_upto_region 6 with (fail)
  refine f0_ (fun wy=>RfN (some ⟨b,off,none⟩) l 3 t 0 w wy) HR.out ?_
  exact mV_
  done
 |
  have HR:=hd_ (hJ_ 4 t 0 w hN)
  have k1:IntKind.i64.wrap ((i:Int)+1)=(i:Int)+1:=IntWalk.i64_in _ om_
  clear hN hnd
  go_enter Tryz.func51,Tryz.ntmps51
  go_upto_region 6 with (fail)
  refine f0_ (fun wy=>RfN (some ⟨b,off,none⟩) l 4 t 0 w wy) HR.out ?_
  exact mV_
  done
 |
  have HR:=hd_ (hJ_ 3 t n w hN)
  have k1:IntKind.i64.wrap ((i:Int)+1)=(i:Int)+1:=IntWalk.i64_in _ om_
  clear hN hnd
  go_enter Tryz.func51,Tryz.ntmps51
  go_upto_region 6 with (fail)
  refine f0_ (fun wy=>RfN (some ⟨b,off,none⟩) l 3 t n w wy) HR.out ?_
  clear HR d1 d2 d3
  rintro w1 hy
  obtain ⟨⟨y0,y1,y2⟩,⟨g0,g1,g2⟩,⟨p0,p1,p2⟩⟩:=hy.cells
  have HV_bl:=hd_ hy.bl;have HV_so:=hd_ hy.so;have HN:=hd_ hy.nds;have HB:=hd_ hy.bel;have hz:=hy.bel.size
  have hlt:w.heap.size+4<w1.heap.size:=(Array.getElem?_eq_some_iff.1 hy.dp).1
  have hob:(opN 2).length=1:=rfl
  have hos:(opN 3).length=1:=rfl
  clear hy
  go_wp2_with fail
  go_region_held3 (fun w'=>w'.cell? ⟨w.heap.size,0,none⟩=some (.int .i64 3)/\w'.cell? ⟨w.heap.size,1,none⟩=some (.string t)/\w'.cell? ⟨w.heap.size,2,none⟩=some (.int .i64 n)/\w'.cell? ⟨w.heap.size+4,0,none⟩=some (.int .i64 7)/\w'.cell? ⟨w.heap.size+4,1,none⟩=some (.string .empty)/\w'.cell? ⟨w.heap.size+4,2,none⟩=some (.int .i64 2))
   (exact ⟨y0,y1,y2,p0,p1,p2⟩)
   (first
   | (refine ds36 ?_;intro w2 A_K c_K _ HV_K HN HV_so y0 y1 y2 g0 g1 g2 p0 p1 p2 HB hz hlt S0)
   | (refine ds34 ?_;intro w3 A_F c_F HV_F HV_so HN y0 y1 y2 g0 g1 g2 p0 p1 p2 HB hz hlt S1)
   | (refine ds35 ?_;intro w4 A_G c_G HV_G HV_so HN y0 y1 y2 g0 g1 g2 p0 p1 p2 HB hz hlt S2))
  go_wp2_with fail
  go_region_held3 (fun w'=>w'.cell? ⟨w.heap.size+3,0,none⟩=some (.int .i64 8)/\w'.cell? ⟨w.heap.size+3,1,none⟩=some (.string .empty)/\w'.cell? ⟨w.heap.size+3,2,none⟩=some (.int .i64 0))
   (exact ⟨g0,g1,g2⟩)
   (first
   | (refine ds41 ?_;intro w6 A_O c_O _ HV_O HN HV_so HV_G g0 g1 g2 HB hz hlt T0)
   | (go_at_call 98;(fail_if_success have z:=T1);have z:=T0;clear z;refine (e3_ ⟨#[41]⟩ de_ _).mono ?_;rintro e w7 ⟨A_E,c_E,rfl,hn,hB⟩;have HV_E:=hd_ (hn.less hz);have HN:=hd_ (HN.out.past hB);have HV_so:=hd_ (HV_so.out.past hB);have HV_G:=hd_ (HV_G.out.past hB);have HV_O:=hd_ (HV_O.out.past hB);have g0:=(hB.cell (p:=⟨w.heap.size+3,0,none⟩) so_).trans g0;have g1:=(hB.cell (p:=⟨w.heap.size+3,1,none⟩) so_).trans g1;have g2:=(hB.cell (p:=⟨w.heap.size+3,2,none⟩) so_).trans g2;have HB:=hd_ (HB.out.trans (hB.mono hz));have hz:=Nat.le_trans hz hB.size;have hlt:=Nat.lt_of_lt_of_le hlt hB.size;clear hn hB;have T1:=hd_ True.intro)
   | (refine ds37 ?_;intro w8 A_H c_H HV_H HN HV_G HV_O g0 g1 g2 HB hz hlt T2)
   | (refine ds38 ?_;intro w9 A_I c_I HV_I HN HV_O g0 g1 g2 HB hz hlt T3)
   | (refine ds39 ?_;intro w10 A_J c_J HV_J HN g0 g1 g2 HB hz hlt T4)
   | (refine ds40 ?_;intro w11 A_Q c_Q HV_Q HN g0 g1 g2 HB hz hlt T5))
  go_wp2
  go_ret
  exact ⟨A_Q,c_Q,rfl,HV_Q.out,HB.out⟩):P:=h
theorem at1_ {A:Option Addr} {c:Nat} {l:List Nd} {i:Nat} {t:ByteArray} {n:Int} {w:World} (hN:Nds w w.heap.size A l) (hi:i<l.length) (hnd:l[i]=Nd.mk 1 t n) (h40:l.length<=40) (n0:0<=n) (n1:n<=999999) :
  Calls Tryz.prog 51 #[.slice A l.length c,.int .i64 (i:Nat)] w (dC_ (aQ_ ⟨(Lib.itoa n).toArray⟩) w):=by
 have hsz:(⟨(Lib.itoa n).toArray⟩:ByteArray).size<=maxLen:=by
  have:=(eR_ n0 n1).2
  simp only [ByteArray.size,maxLen,List.size_toArray];omega
 have HSZ:=hd_ hsz
 obtain ⟨u,rfl⟩:∃ u:Nat,n=u:=⟨n.toNat,by omega⟩
 have HIT:=hd_ (fun w'=>y5_ u om_ w')
 generalize (⟨(Lib.itoa (u:Nat)).toArray⟩:ByteArray)=T at *
 exact w7_
theorem rR_ (h:P:=by
 obtain ⟨b,off,op,t',n',rfl,hb,hnd',hts,d1,d2,d3⟩:=hN.node (Below.refl _ _) hi
 rw [hnd] at hnd'
 cases hnd'
 first
 |
  have HR:=hd_ (hJ_ 2 t n w hN)
  have k1:IntKind.i64.wrap ((i:Int)+1)=(i:Int)+1:=IntWalk.i64_in _ om_
  clear hN hnd
  go_enter Tryz.func51,Tryz.ntmps51
  go_upto_region 6 with (fail)
  refine f0_ (fun wy=>RfN (some ⟨b,off,none⟩) l 2 t n w wy) HR.out ?_
  exact mV_
  done
 |
  have HR:=hd_ (hJ_ 5 t n w hN)
  have k1:IntKind.i64.wrap ((i:Int)+1)=(i:Int)+1:=IntWalk.i64_in _ om_
  clear hN hnd
  go_enter Tryz.func51,Tryz.ntmps51
  go_upto_region 6 with (fail)
  refine f0_ (fun wy=>RfN (some ⟨b,off,none⟩) l 5 t n w wy) HR.out ?_
  exact mV_
  done
 |
  have HR:=hd_ (hJ_ 6 t n w hN)
  have k1:IntKind.i64.wrap ((i:Int)+1)=(i:Int)+1:=IntWalk.i64_in _ om_
  clear hN hnd
  go_enter Tryz.func51,Tryz.ntmps51
  go_upto_region 6 with (fail)
  refine f0_ (fun wy=>RfN (some ⟨b,off,none⟩) l 6 t n w wy) HR.out ?_
  exact mV_
  done
 |
  have HR:=hd_ (hJ_ 8 t n w hN)
  have k1:IntKind.i64.wrap ((i:Int)+1)=(i:Int)+1:=IntWalk.i64_in _ om_
  clear hN hnd
  go_enter Tryz.func51,Tryz.ntmps51
  go_upto_region 6 with (fail)
  refine f0_ (fun wy=>RfN (some ⟨b,off,none⟩) l 8 t n w wy) HR.out ?_
  exact mV_
  done
 |
  have HR:=hd_ (hJ_ 7 t n w hN)
  have k1:IntKind.i64.wrap ((i:Int)+1)=(i:Int)+1:=IntWalk.i64_in _ om_
  clear hN hnd
  go_enter Tryz.func51,Tryz.ntmps51
  go_upto_region 6 with (fail)
  refine f0_ (fun wy=>RfN (some ⟨b,off,none⟩) l 7 t n w wy) HR.out ?_
  clear HR d1 d2 d3
  rintro w1 hy
  obtain ⟨⟨y0,y1,y2⟩,⟨g0,g1,g2⟩,⟨p0,p1,p2⟩⟩:=hy.cells
  have HV_bl:=hd_ hy.bl;have HV_so:=hd_ hy.so;have HN:=hd_ hy.nds;have HB:=hd_ hy.bel;have hz:=hy.bel.size
  have hlt:w.heap.size+4<w1.heap.size:=(Array.getElem?_eq_some_iff.1 hy.dp).1
  have hob:(opN 2).length=1:=rfl
  have hos:(opN 3).length=1:=rfl
  clear hy
  go_wp2_with (first
   | (go_at_call 51;(fail_if_success have z:=S0);refine (HD.out _ HN.out).mono ?_;rintro e w2 ⟨A_d,c_d,rfl,hn,hB⟩;have HV_bl:=hd_ (HV_bl.out.past hB);have HV_d:=hd_ (hn.less hz);have HN:=hd_ (HN.out.past hB);have y0:=(hB.cell (p:=⟨w.heap.size,0,none⟩) so_).trans y0;have y1:=(hB.cell (p:=⟨w.heap.size,1,none⟩) so_).trans y1;have y2:=(hB.cell (p:=⟨w.heap.size,2,none⟩) so_).trans y2;have g0:=(hB.cell (p:=⟨w.heap.size+3,0,none⟩) so_).trans g0;have g1:=(hB.cell (p:=⟨w.heap.size+3,1,none⟩) so_).trans g1;have g2:=(hB.cell (p:=⟨w.heap.size+3,2,none⟩) so_).trans g2;have p0:=(hB.cell (p:=⟨w.heap.size+4,0,none⟩) so_).trans p0;have p1:=(hB.cell (p:=⟨w.heap.size+4,1,none⟩) so_).trans p1;have p2:=(hB.cell (p:=⟨w.heap.size+4,2,none⟩) so_).trans p2;have HB:=hd_ (HB.out.trans (hB.mono hz));have hz:=Nat.le_trans hz hB.size;have hlt:=Nat.lt_of_lt_of_le hlt hB.size;clear hn hB;have S0:=hd_ True.intro)
   | (go_at_call 98;(fail_if_success have z:=S1);have z:=S0;clear z;refine (e3_ ⟨#[59]⟩ de_ _).mono ?_;rintro e w3 ⟨A_W,c_W,rfl,hn,hB⟩;have HV_bl:=hd_ (HV_bl.out.past hB);have HV_W:=hd_ (hn.less hz);have HN:=hd_ (HN.out.past hB);have HV_d:=hd_ (HV_d.out.past hB);have y0:=(hB.cell (p:=⟨w.heap.size,0,none⟩) so_).trans y0;have y1:=(hB.cell (p:=⟨w.heap.size,1,none⟩) so_).trans y1;have y2:=(hB.cell (p:=⟨w.heap.size,2,none⟩) so_).trans y2;have g0:=(hB.cell (p:=⟨w.heap.size+3,0,none⟩) so_).trans g0;have g1:=(hB.cell (p:=⟨w.heap.size+3,1,none⟩) so_).trans g1;have g2:=(hB.cell (p:=⟨w.heap.size+3,2,none⟩) so_).trans g2;have p0:=(hB.cell (p:=⟨w.heap.size+4,0,none⟩) so_).trans p0;have p1:=(hB.cell (p:=⟨w.heap.size+4,1,none⟩) so_).trans p1;have p2:=(hB.cell (p:=⟨w.heap.size+4,2,none⟩) so_).trans p2;have HB:=hd_ (HB.out.trans (hB.mono hz));have hz:=Nat.le_trans hz hB.size;have hlt:=Nat.lt_of_lt_of_le hlt hB.size;clear hn hB;have S1:=hd_ True.intro)
   | (go_at_call 101;(fail_if_success have z:=S2);have z:=S1;clear z;refine (dO_ _ _ _ _ _ _ _ HV_d.out.1 HV_W.out.1 (by (repeat (first|rw [aR_]|rw [aW_]|rw [b6_]|rw [aT_]|rw [aI_]));omega)).mono ?_;rintro e w4 ⟨A_X,c_X,rfl,hn,hB⟩;have HV_bl:=hd_ (HV_bl.out.past hB);have HV_X:=hd_ (hn.less hz);have HN:=hd_ (HN.out.past hB);have y0:=(hB.cell (p:=⟨w.heap.size,0,none⟩) so_).trans y0;have y1:=(hB.cell (p:=⟨w.heap.size,1,none⟩) so_).trans y1;have y2:=(hB.cell (p:=⟨w.heap.size,2,none⟩) so_).trans y2;have g0:=(hB.cell (p:=⟨w.heap.size+3,0,none⟩) so_).trans g0;have g1:=(hB.cell (p:=⟨w.heap.size+3,1,none⟩) so_).trans g1;have g2:=(hB.cell (p:=⟨w.heap.size+3,2,none⟩) so_).trans g2;have p0:=(hB.cell (p:=⟨w.heap.size+4,0,none⟩) so_).trans p0;have p1:=(hB.cell (p:=⟨w.heap.size+4,1,none⟩) so_).trans p1;have p2:=(hB.cell (p:=⟨w.heap.size+4,2,none⟩) so_).trans p2;have HB:=hd_ (HB.out.trans (hB.mono hz));have hz:=Nat.le_trans hz hB.size;have hlt:=Nat.lt_of_lt_of_le hlt hB.size;clear hn hB;have S2:=hd_ True.intro))
  go_region_held3 (fun w'=>w'.cell? ⟨w.heap.size,0,none⟩=some (.int .i64 7)/\w'.cell? ⟨w.heap.size,1,none⟩=some (.string t)/\w'.cell? ⟨w.heap.size,2,none⟩=some (.int .i64 n)/\w'.cell? ⟨w.heap.size+3,0,none⟩=some (.int .i64 8)/\w'.cell? ⟨w.heap.size+3,1,none⟩=some (.string .empty)/\w'.cell? ⟨w.heap.size+3,2,none⟩=some (.int .i64 0)/\w'.cell? ⟨w.heap.size+4,0,none⟩=some (.int .i64 7)/\w'.cell? ⟨w.heap.size+4,1,none⟩=some (.string .empty)/\w'.cell? ⟨w.heap.size+4,2,none⟩=some (.int .i64 2))
   (exact ⟨y0,y1,y2,g0,g1,g2,p0,p1,p2⟩)
   (first
   | (go_at_call 98;(fail_if_success have z:=T0);refine (e3_ _ HSZ.out _).mono ?_;rintro e w5 ⟨A_O,c_O,rfl,hn,hB⟩;have hB:=bR_ hB;have HV_O:=hd_ (hn.less hz);have HN:=hd_ (HN.out.past hB);have HV_bl:=hd_ (HV_bl.out.past hB);have HV_X:=hd_ (HV_X.out.past hB);have y0:=(hB.cell (p:=⟨w.heap.size,0,none⟩) so_).trans y0;have y1:=(hB.cell (p:=⟨w.heap.size,1,none⟩) so_).trans y1;have y2:=(hB.cell (p:=⟨w.heap.size,2,none⟩) so_).trans y2;have g0:=(hB.cell (p:=⟨w.heap.size+3,0,none⟩) so_).trans g0;have g1:=(hB.cell (p:=⟨w.heap.size+3,1,none⟩) so_).trans g1;have g2:=(hB.cell (p:=⟨w.heap.size+3,2,none⟩) so_).trans g2;have p0:=(hB.cell (p:=⟨w.heap.size+4,0,none⟩) so_).trans p0;have p1:=(hB.cell (p:=⟨w.heap.size+4,1,none⟩) so_).trans p1;have p2:=(hB.cell (p:=⟨w.heap.size+4,2,none⟩) so_).trans p2;have HB:=hd_ (HB.out.trans (hB.mono hz));have hz:=Nat.le_trans hz hB.size;have hlt:=Nat.lt_of_lt_of_le hlt hB.size;clear hn hB;have T0:=hd_ True.intro)
   | (go_at_call 101;(fail_if_success have z:=T1);have z:=T0;clear z;refine (dO_ _ _ _ _ _ _ _ HV_bl.out.1 HV_X.out.1 (by (repeat (first|rw [aR_]|rw [aW_]|rw [b6_]|rw [aT_]|rw [aI_]));omega)).mono ?_;rintro e w6 ⟨A_F,c_F,rfl,hn,hB⟩;have HV_F:=hd_ (hn.less hz);have HN:=hd_ (HN.out.past hB);have HV_O:=hd_ (HV_O.out.past hB);have y0:=(hB.cell (p:=⟨w.heap.size,0,none⟩) so_).trans y0;have y1:=(hB.cell (p:=⟨w.heap.size,1,none⟩) so_).trans y1;have y2:=(hB.cell (p:=⟨w.heap.size,2,none⟩) so_).trans y2;have g0:=(hB.cell (p:=⟨w.heap.size+3,0,none⟩) so_).trans g0;have g1:=(hB.cell (p:=⟨w.heap.size+3,1,none⟩) so_).trans g1;have g2:=(hB.cell (p:=⟨w.heap.size+3,2,none⟩) so_).trans g2;have p0:=(hB.cell (p:=⟨w.heap.size+4,0,none⟩) so_).trans p0;have p1:=(hB.cell (p:=⟨w.heap.size+4,1,none⟩) so_).trans p1;have p2:=(hB.cell (p:=⟨w.heap.size+4,2,none⟩) so_).trans p2;have HB:=hd_ (HB.out.trans (hB.mono hz));have hz:=Nat.le_trans hz hB.size;have hlt:=Nat.lt_of_lt_of_le hlt hB.size;clear hn hB;have T1:=hd_ True.intro)
   | (go_at_call 100;(fail_if_success have z:=T2);have z:=T1;clear z;refine (oW_ _ _ _ _ HV_F.out.1 (by (repeat (first|rw [aR_]|rw [aW_]|rw [b6_]|rw [aT_]|rw [aI_]));omega)).mono ?_;rintro e w7 ⟨A_G,c_G,rfl,hn,hB⟩;have HV_G:=hd_ (hn.less hz);have HN:=hd_ (HN.out.past hB);have HV_O:=hd_ (HV_O.out.past hB);have y0:=(hB.cell (p:=⟨w.heap.size,0,none⟩) so_).trans y0;have y1:=(hB.cell (p:=⟨w.heap.size,1,none⟩) so_).trans y1;have y2:=(hB.cell (p:=⟨w.heap.size,2,none⟩) so_).trans y2;have g0:=(hB.cell (p:=⟨w.heap.size+3,0,none⟩) so_).trans g0;have g1:=(hB.cell (p:=⟨w.heap.size+3,1,none⟩) so_).trans g1;have g2:=(hB.cell (p:=⟨w.heap.size+3,2,none⟩) so_).trans g2;have p0:=(hB.cell (p:=⟨w.heap.size+4,0,none⟩) so_).trans p0;have p1:=(hB.cell (p:=⟨w.heap.size+4,1,none⟩) so_).trans p1;have p2:=(hB.cell (p:=⟨w.heap.size+4,2,none⟩) so_).trans p2;have HB:=hd_ (HB.out.trans (hB.mono hz));have hz:=Nat.le_trans hz hB.size;have hlt:=Nat.lt_of_lt_of_le hlt hB.size;clear hn hB;have T2:=hd_ True.intro)
   | (go_at_call 101;(fail_if_success have z:=T3);have z:=T2;clear z;refine (dO_ _ _ _ _ _ _ _ HV_O.out.1 HV_G.out.1 (by (repeat (first|rw [aR_]|rw [aW_]|rw [b6_]|rw [aT_]|rw [aI_]));omega)).mono ?_;rintro e w8 ⟨A_J,c_J,rfl,hn,hB⟩;have HV_J:=hd_ (hn.less hz);have HN:=hd_ (HN.out.past hB);have y0:=(hB.cell (p:=⟨w.heap.size,0,none⟩) so_).trans y0;have y1:=(hB.cell (p:=⟨w.heap.size,1,none⟩) so_).trans y1;have y2:=(hB.cell (p:=⟨w.heap.size,2,none⟩) so_).trans y2;have g0:=(hB.cell (p:=⟨w.heap.size+3,0,none⟩) so_).trans g0;have g1:=(hB.cell (p:=⟨w.heap.size+3,1,none⟩) so_).trans g1;have g2:=(hB.cell (p:=⟨w.heap.size+3,2,none⟩) so_).trans g2;have p0:=(hB.cell (p:=⟨w.heap.size+4,0,none⟩) so_).trans p0;have p1:=(hB.cell (p:=⟨w.heap.size+4,1,none⟩) so_).trans p1;have p2:=(hB.cell (p:=⟨w.heap.size+4,2,none⟩) so_).trans p2;have HB:=hd_ (HB.out.trans (hB.mono hz));have hz:=Nat.le_trans hz hB.size;have hlt:=Nat.lt_of_lt_of_le hlt hB.size;clear hn hB;have T3:=hd_ True.intro)
   | (go_at_call 100;(fail_if_success have z:=T4);have z:=T3;clear z;refine (nR_ _ _ _ _ HV_J.out.1 (by (repeat (first|rw [aR_]|rw [aW_]|rw [b6_]|rw [aT_]|rw [aI_]));omega)).mono ?_;rintro e w9 ⟨A_Q,c_Q,rfl,hn,hB⟩;have HV_Q:=hd_ (hn.less hz);have HN:=hd_ (HN.out.past hB);have y0:=(hB.cell (p:=⟨w.heap.size,0,none⟩) so_).trans y0;have y1:=(hB.cell (p:=⟨w.heap.size,1,none⟩) so_).trans y1;have y2:=(hB.cell (p:=⟨w.heap.size,2,none⟩) so_).trans y2;have g0:=(hB.cell (p:=⟨w.heap.size+3,0,none⟩) so_).trans g0;have g1:=(hB.cell (p:=⟨w.heap.size+3,1,none⟩) so_).trans g1;have g2:=(hB.cell (p:=⟨w.heap.size+3,2,none⟩) so_).trans g2;have p0:=(hB.cell (p:=⟨w.heap.size+4,0,none⟩) so_).trans p0;have p1:=(hB.cell (p:=⟨w.heap.size+4,1,none⟩) so_).trans p1;have p2:=(hB.cell (p:=⟨w.heap.size+4,2,none⟩) so_).trans p2;have HB:=hd_ (HB.out.trans (hB.mono hz));have hz:=Nat.le_trans hz hB.size;have hlt:=Nat.lt_of_lt_of_le hlt hB.size;clear hn hB;have T4:=hd_ True.intro))
  go_wp2
  go_ret
  exact ⟨A_Q,c_Q,rfl,HV_Q.out,HB.out⟩):P:=h
theorem at2_ {A:Option Addr} {c:Nat} {l:List Nd} {i:Nat} {t:ByteArray} {n:Int} {w:World} (hN:Nds w w.heap.size A l) (hi:i<l.length) (hnd:l[i]=Nd.mk 2 t n) (h40:l.length<=40)  :
  Calls Tryz.prog 51 #[.slice A l.length c,.int .i64 (i:Nat)] w (dC_ (aQ_ t) w):=by
 exact rR_
theorem at3_ {A:Option Addr} {c:Nat} {l:List Nd} {i:Nat} {t:ByteArray} {n:Int} {w:World} (hN:Nds w w.heap.size A l) (hi:i<l.length) (hnd:l[i]=Nd.mk 5 t n) (h40:l.length<=40) {x y:List Nd} {z:Nat} (hx:x.length<=1000) (hy0:y.length<=1000) (HKx:Hid (∀ w',Nds w' w'.heap.size A l->Calls Tryz.prog 99 #[.slice A l.length c,.int .i64 (i:Nat),.int .i64 ((i:Int)+1),.bool false] w' (dC_ x w'))) (HKy:Hid (∀ w',Nds w' w'.heap.size A l->Calls Tryz.prog 99 #[.slice A l.length c,.int .i64 (i:Nat),.int .i64 (z:Nat),.bool true] w' (dC_ y w'))) (HE:Hid (∀ w',Nds w' w'.heap.size A l->Calls Tryz.prog 59 #[.slice A l.length c,.int .i64 ((i:Int)+1)] w' (Ret w' (.int .i64 (z:Nat))))) :
  Calls Tryz.prog 51 #[.slice A l.length c,.int .i64 (i:Nat)] w (dC_ (iK_ ⟨#[43,32]⟩ x y) w):=by
 rw [iK_]
 exact rR_
theorem at4_ {A:Option Addr} {c:Nat} {l:List Nd} {i:Nat} {t:ByteArray} {n:Int} {w:World} (hN:Nds w w.heap.size A l) (hi:i<l.length) (hnd:l[i]=Nd.mk 6 t n) (h40:l.length<=40) {x y:List Nd} {z:Nat} (hx:x.length<=1000) (hy0:y.length<=1000) (HKx:Hid (∀ w',Nds w' w'.heap.size A l->Calls Tryz.prog 99 #[.slice A l.length c,.int .i64 (i:Nat),.int .i64 ((i:Int)+1),.bool false] w' (dC_ x w'))) (HKy:Hid (∀ w',Nds w' w'.heap.size A l->Calls Tryz.prog 99 #[.slice A l.length c,.int .i64 (i:Nat),.int .i64 (z:Nat),.bool true] w' (dC_ y w'))) (HE:Hid (∀ w',Nds w' w'.heap.size A l->Calls Tryz.prog 59 #[.slice A l.length c,.int .i64 ((i:Int)+1)] w' (Ret w' (.int .i64 (z:Nat))))) :
  Calls Tryz.prog 51 #[.slice A l.length c,.int .i64 (i:Nat)] w (dC_ (iK_ ⟨#[42,32]⟩ x y) w):=by
 rw [iK_]
 exact rR_
theorem at5_ {A:Option Addr} {c:Nat} {l:List Nd} {i:Nat} {t:ByteArray} {n:Int} {w:World} (hN:Nds w w.heap.size A l) (hi:i<l.length) (hnd:l[i]=Nd.mk 7 t n) (h40:l.length<=40) (ht8:t.size<=8) {d:List Nd} (hdl:d.length<=900) (HD:Hid (∀ w',Nds w' w'.heap.size A l->Calls Tryz.prog 51 #[.slice A l.length c,.int .i64 ((i:Int)+1)] w' (dC_ d w'))) :
  Calls Tryz.prog 51 #[.slice A l.length c,.int .i64 (i:Nat)] w (dC_ (cA_ (aN_ (aQ_ (⟨#[108,101,116,32]⟩++t++⟨#[32,61]⟩)) (d4_ (aN_ (opN 2) (aN_ d (aQ_ ⟨#[59]⟩)))))) w):=by
 have hsz:(⟨#[108,101,116,32]⟩++t++⟨#[32,61]⟩:ByteArray).size<=maxLen:=by
  simp only [ByteArray.size_append,maxLen]
  show 4+t.size+2<=_
  omega
 have HSZ:=hd_ hsz
 clear hsz
 have hcat0:∀ w',(Op.stringOp .add ⟨#[108,101,116,32]⟩ t).run Tryz.prog w'=.ok (.string (⟨#[108,101,116,32]⟩++t)) w':=fun w'=>run_string_add_sum w' _ t (by show 4+t.size<=_;omega)
 have hcat1:∀ w',(Op.stringOp .add (⟨#[108,101,116,32]⟩++t) ⟨#[32,61]⟩).run Tryz.prog w'=.ok (.string (⟨#[108,101,116,32]⟩++t++⟨#[32,61]⟩)) w':=fun w'=>run_string_add_sum w' _ _ (by rw [ByteArray.size_append];show 4+t.size+2<=_;omega)
 exact rR_
theorem at6_ {A:Option Addr} {c:Nat} {l:List Nd} {i:Nat} {t:ByteArray} {n:Int} {w:World} (hN:Nds w w.heap.size A l) (hi:i<l.length) (hnd:l[i]=Nd.mk 8 t n) (h40:l.length<=40) {d:List Nd} (hdl:d.length<=900) (HD:Hid (∀ w',Nds w' w'.heap.size A l->Calls Tryz.prog 51 #[.slice A l.length c,.int .i64 ((i:Int)+1)] w' (dC_ d w'))) :
  Calls Tryz.prog 51 #[.slice A l.length c,.int .i64 (i:Nat)] w (dC_ (aN_ d (aQ_ ⟨#[59]⟩)) w):=by
 exact rR_
theorem ap7_ {A:Option Addr} {c:Nat} {l:List Nd} {i:Nat} {t:ByteArray} {n:Int} {w:World} (hN:Nds w w.heap.size A l) (hi:i<l.length) (hnd:l[i]=Nd.mk 3 t n) (h40:l.length<=40) (ht8:t.size<=8) (hn0:n=0) :
  Calls Tryz.prog 51 #[.slice A l.length c,.int .i64 (i:Nat)] w (dC_ (aQ_ ((t++⟨#[40]⟩)++⟨#[41]⟩)) w):=by
 subst hn0
 have hsz:((t++⟨#[40]⟩)++⟨#[41]⟩:ByteArray).size<=maxLen:=by
  simp only [ByteArray.size_append,maxLen]
  show t.size+1+1<=_
  omega
 have HSZ:=hd_ hsz
 exact w7_
theorem ap8_ {A:Option Addr} {c:Nat} {l:List Nd} {i:Nat} {t:ByteArray} {n:Int} {w:World} (hN:Nds w w.heap.size A l) (hi:i<l.length) (hnd:l[i]=Nd.mk 3 t n) (h40:l.length<=40) (ht8:t.size<=8) (hn1:1<=n) (hn6:n<=6) {K:List Nd} (hK:K.length<=900) (HK:Hid (∀ w',Nds w' w'.heap.size A l->Calls Tryz.prog 102 #[.slice A l.length c,.int .i64 ((i:Int)+1),.int .i64 n] w' (dC_ K w'))) :
  Calls Tryz.prog 51 #[.slice A l.length c,.int .i64 (i:Nat)] w (dC_ (cA_ (aN_ (aQ_ (t++⟨#[40]⟩)) (aN_ (d4_ (aN_ (opN 3) K)) (aN_ (opN 3) (aQ_ ⟨#[41]⟩))))) w):=by
 have hn0:(n==0)=false:=by simp;omega
 have hsz:((t++⟨#[40]⟩):ByteArray).size<=maxLen:=(by rw [ByteArray.size_append];simp only [maxLen];show t.size+1<=_;omega)
 have HSZ:=hd_ hsz
 exact w7_
theorem ap9_ {A:Option Addr} {c:Nat} {l:List Nd} {i:Nat} {t:ByteArray} {n:Int} {w:World} (hN:Nds w w.heap.size A l) (hi:i<l.length) (hnd:l[i]=Nd.mk 4 t n) (h40:l.length<=40) (hn0:n=0) :
  Calls Tryz.prog 51 #[.slice A l.length c,.int .i64 (i:Nat)] w (dC_ (aQ_ (⟨#[91]⟩++⟨#[93]⟩)) w):=by
 subst hn0
 have hsz:(⟨#[91]⟩++⟨#[93]⟩:ByteArray).size<=maxLen:=by
  decide
 have HSZ:=hd_ hsz
 exact w7_
theorem apA_ {A:Option Addr} {c:Nat} {l:List Nd} {i:Nat} {t:ByteArray} {n:Int} {w:World} (hN:Nds w w.heap.size A l) (hi:i<l.length) (hnd:l[i]=Nd.mk 4 t n) (h40:l.length<=40) (hn1:1<=n) (hn6:n<=6) {K:List Nd} (hK:K.length<=900) (HK:Hid (∀ w',Nds w' w'.heap.size A l->Calls Tryz.prog 102 #[.slice A l.length c,.int .i64 ((i:Int)+1),.int .i64 n] w' (dC_ K w'))) :
  Calls Tryz.prog 51 #[.slice A l.length c,.int .i64 (i:Nat)] w (dC_ (cA_ (aN_ (aQ_ ⟨#[91]⟩) (aN_ (d4_ (aN_ (opN 3) K)) (aN_ (opN 3) (aQ_ ⟨#[93]⟩))))) w):=by
 have hn0:(n==0)=false:=by simp;omega
 have hsz:(⟨#[91]⟩:ByteArray).size<=maxLen:=de_
 have HSZ:=hd_ hsz
 clear hsz
 obtain ⟨b,off,op,t',n',rfl,hb,hnd',hts,d1,d2,d3⟩:=hN.node (Below.refl _ _) hi
 rw [hnd] at hnd'
 cases hnd'
 have HR:=hd_ (hJ_ 4 t n w hN)
 have k1:IntKind.i64.wrap ((i:Int)+1)=(i:Int)+1:=IntWalk.i64_in _ om_
 clear hN hnd
 go_enter Tryz.func51,Tryz.ntmps51
 go_upto_region 6 with (fail)
 refine f0_ (fun wy=>RfN (some ⟨b,off,none⟩) l 4 t n w wy) HR.out ?_
 clear HR d1 d2 d3
 rintro w1 hy
 obtain ⟨⟨y0,y1,y2⟩,⟨g0,g1,g2⟩,⟨p0,p1,p2⟩⟩:=hy.cells
 have HV_bl:=hd_ hy.bl;have HV_so:=hd_ hy.so;have HN:=hd_ hy.nds;have HB:=hd_ hy.bel;have hz:=hy.bel.size
 have hlt:w.heap.size+4<w1.heap.size:=(Array.getElem?_eq_some_iff.1 hy.dp).1
 have hob:(opN 2).length=1:=rfl
 have hos:(opN 3).length=1:=rfl
 clear hy
 go_wp2_with fail
 go_region_held3 (fun w'=>w'.cell? ⟨w.heap.size,0,none⟩=some (.int .i64 4)/\w'.cell? ⟨w.heap.size,1,none⟩=some (.string t)/\w'.cell? ⟨w.heap.size,2,none⟩=some (.int .i64 n)/\w'.cell? ⟨w.heap.size+4,0,none⟩=some (.int .i64 7)/\w'.cell? ⟨w.heap.size+4,1,none⟩=some (.string .empty)/\w'.cell? ⟨w.heap.size+4,2,none⟩=some (.int .i64 2))
  (exact ⟨y0,y1,y2,p0,p1,p2⟩)
  (first
  | (refine ds36 ?_;intro w2 A_K c_K _ HV_K HN HV_so y0 y1 y2 g0 g1 g2 p0 p1 p2 HB hz hlt S0)
  | (refine ds34 ?_;intro w3 A_F c_F HV_F HV_so HN y0 y1 y2 g0 g1 g2 p0 p1 p2 HB hz hlt S1)
  | (refine ds35 ?_;intro w4 A_G c_G HV_G HV_so HN y0 y1 y2 g0 g1 g2 p0 p1 p2 HB hz hlt S2))
 go_wp2_with fail
 go_region_held3 (fun w'=>w'.cell? ⟨w.heap.size+3,0,none⟩=some (.int .i64 8)/\w'.cell? ⟨w.heap.size+3,1,none⟩=some (.string .empty)/\w'.cell? ⟨w.heap.size+3,2,none⟩=some (.int .i64 0))
  (exact ⟨g0,g1,g2⟩)
  (first
  | (refine ds41 ?_;intro w6 A_O c_O _ HV_O HN HV_so HV_G g0 g1 g2 HB hz hlt T0)
  | (go_at_call 98;(fail_if_success have z:=T1);have z:=T0;clear z;refine (e3_ ⟨#[93]⟩ de_ _).mono ?_;rintro e w7 ⟨A_E,c_E,rfl,hn,hB⟩;have HV_E:=hd_ (hn.less hz);have HN:=hd_ (HN.out.past hB);have HV_so:=hd_ (HV_so.out.past hB);have HV_G:=hd_ (HV_G.out.past hB);have HV_O:=hd_ (HV_O.out.past hB);have g0:=(hB.cell (p:=⟨w.heap.size+3,0,none⟩) so_).trans g0;have g1:=(hB.cell (p:=⟨w.heap.size+3,1,none⟩) so_).trans g1;have g2:=(hB.cell (p:=⟨w.heap.size+3,2,none⟩) so_).trans g2;have HB:=hd_ (HB.out.trans (hB.mono hz));have hz:=Nat.le_trans hz hB.size;have hlt:=Nat.lt_of_lt_of_le hlt hB.size;clear hn hB;have T1:=hd_ True.intro)
  | (refine ds37 ?_;intro w8 A_H c_H HV_H HN HV_G HV_O g0 g1 g2 HB hz hlt T2)
  | (refine ds38 ?_;intro w9 A_I c_I HV_I HN HV_O g0 g1 g2 HB hz hlt T3)
  | (refine ds39 ?_;intro w10 A_J c_J HV_J HN g0 g1 g2 HB hz hlt T4)
  | (refine ds40 ?_;intro w11 A_Q c_Q HV_Q HN g0 g1 g2 HB hz hlt T5))
 go_wp2
 go_ret
 exact ⟨A_Q,c_Q,rfl,HV_Q.out,HB.out⟩
theorem am8_ (h:P:=by
 have hy2:=gE_ hT (f:=f) om_ r1 (eA_ hT r1 om_)
 have c1:=fun w' hw'=>y8_ (A:=A) (c:=c) hT ih i (i+1) i ((i:Int)+1) false w' rfl om_ hw' hi q1 om_ om_
 have c2:=fun w' hw'=>y8_ (A:=A) (c:=c) hT ih i (a0_ l (i+1)) i (a0_ l (i+1):Nat) true w' rfl rfl hw' hi r1 om_ om_
 rw [hoe] at c1 c2
 first
 |
  exact at3_ hN hi hnd hm40 om_ om_ (hd_ c1) (hd_ c2) (hd_ (fun w' hw'=>kS_ hT A c q1 om_ w' hw'))
  done
 |
  exact at4_ hN hi hnd hm40 om_ om_ (hd_ c1) (hd_ c2) (hd_ (fun w' hw'=>kS_ hT A c q1 om_ w' hw'))):P:=h
theorem am9_ (h:P:=by
 obtain ⟨q1,q2,r1,r2,r3⟩:i+1<l.length/\i+1<a0_ l (i+1)/\a0_ l (i+1)<l.length/\a0_ l (i+1)<a0_ l (a0_ l (i+1))/\a0_ l (a0_ l (i+1))=a0_ l i:=⟨hk.1,hk.2.1,hk.2.2.1,hk.2.2.2.1,hk.2.2.2.2⟩
 first
 |
  rw [show aC_ l (f+1) i=iK_ ⟨#[43,32]⟩ (dF_ 5 (a9_ l (i+1)) false (aC_ l f (i+1))) (dF_ 5 (a9_ l (a0_ l (i+1))) true (aC_ l f (a0_ l (i+1)))) by
   rw [aC_,aD_ hi,hnd]
   simp only [show ¬ (5:Int)=1 by decide,show ¬ (5:Int)=2 by decide,show ¬ (5:Int)=3 by decide,show ¬ (5:Int)=4 by decide,if_false,if_true]]
  have hx1:=fQ_ 5 (a9_ l (i+1)) false (aC_ l f (i+1))
  have hx2:=gE_ hT (f:=f) om_ q1 (eA_ hT q1 om_)
  have hy1:=fQ_ 5 (a9_ l (a0_ l (i+1))) true (aC_ l f (a0_ l (i+1)))
  exact am8_
  done
 |
  rw [show aC_ l (f+1) i=iK_ ⟨#[42,32]⟩ (dF_ 6 (a9_ l (i+1)) false (aC_ l f (i+1))) (dF_ 6 (a9_ l (a0_ l (i+1))) true (aC_ l f (a0_ l (i+1)))) by
   rw [aC_,aD_ hi,hnd]
   simp only [show ¬ (6:Int)=1 by decide,show ¬ (6:Int)=2 by decide,show ¬ (6:Int)=3 by decide,show ¬ (6:Int)=4 by decide,show ¬ (6:Int)=5 by decide,if_false,if_true]]
  have hx1:=fQ_ 6 (a9_ l (i+1)) false (aC_ l f (i+1))
  have hx2:=gE_ hT (f:=f) om_ q1 (eA_ hT q1 om_)
  have hy1:=fQ_ 6 (a9_ l (a0_ l (i+1))) true (aC_ l f (a0_ l (i+1)))
  exact am8_):P:=h
theorem ak1_ {A:Option Addr} {c:Nat} {l:List Nd} (hT:Tr l):∀ f,sV_ A c l f:=by
 intro f
 induction f with
 | zero=>intro i v w hv hN hi hf;omega
 | succ f ih =>
 intro i v w hv hN hi hf h9
 subst hv
 have hk:=hT.kidsP hi
 have hone:=hT.one _ (List.getElem_mem hi)
 have hmm:(b3_ l).getD i 0=(aL_ l[i].op l[i].n).toNat:=cT_ hi rfl
 rw [hmm] at hk
 clear hmm
 have hoe:a9_ l i=l[i].op:=by rw [a9_,aD_ hi]
 rw [hoe] at h9
 obtain ⟨op,t,n,hnd⟩:∃ op t n,l[i]=Nd.mk op t n:=⟨_,_,_,rfl⟩
 rw [hnd] at hone hk h9 hoe
 simp only at hone hk h9 hoe
 have hop:1<=op/\op<=8:=by
  by_cases hc:op<1∨9<op
  ·rw [a8_,if_pos (by rcases hc with h|h;exact .inl h;exact .inr (.inl h))] at hone;cases hone
  ·omega
 have hnm:dJ_ op=true->t.size<=8:=fun h=>(cY_ (c4_ hone h h9)).2.1
 have hn6:=fG_ hone
 have hm40:=hT.len
 have hcs:op=1∨op=2∨op=3∨op=4∨op=5∨op=6∨op=7∨op=8:=by omega
 rcases hcs with rfl|rfl|rfl|rfl|rfl|rfl|rfl|rfl
 ·obtain ⟨n0,n1⟩:=fH_ hone
  rw [show aC_ l (f+1) i=aQ_ ⟨(Lib.itoa n).toArray⟩ by
   rw [aC_,aD_ hi,hnd]
   simp only [if_true]]
  exact at1_ hN hi hnd hm40 n0 n1
 ·rw [show aC_ l (f+1) i=aQ_ t by
   rw [aC_,aD_ hi,hnd]
   simp only [show ¬ (2:Int)=1 by decide,if_false,if_true]]
  exact at2_ hN hi hnd hm40
 ·rw [show aL_ 3 n=n from rfl] at hk hn6
  rw [show aC_ l (f+1) i=d8_ (t++⟨#[40]⟩) ⟨#[41]⟩ n.toNat (bU_ (aC_ l f) (a0_ l) (i+1) n.toNat) by
   rw [aC_,aD_ hi,hnd]
   simp only [show ¬ (3:Int)=1 by decide,show ¬ (3:Int)=2 by decide,if_false,if_true]]
  by_cases h0:n=0
  ·rw [show d8_ (t++⟨#[40]⟩) ⟨#[41]⟩ n.toNat (bU_ (aC_ l f) (a0_ l) (i+1) n.toNat)=aQ_ (t++⟨#[40]⟩++⟨#[41]⟩) by rw [h0];rfl]
   exact ap7_ hN hi hnd hm40 (hnm rfl) h0
  ·obtain ⟨m,rfl⟩:∃ m:Nat,n=(m:Int)+1:=⟨n.toNat-1,by omega⟩
   rw [show ((m:Int)+1).toNat=m+1 by omega] at hk ⊢
   have hzl:=(oZ_ hk om_).2
   rw [show d8_ (t++⟨#[40]⟩) ⟨#[41]⟩ (m+1) (bU_ (aC_ l f) (a0_ l) (i+1) (m+1))=cA_ (aN_ (aQ_ (t++⟨#[40]⟩)) (aN_ (d4_ (aN_ (opN 3) (bU_ (aC_ l f) (a0_ l) (i+1) (m+1)))) (aN_ (opN 3) (aQ_ ⟨#[41]⟩)))) by simp [d8_]]
   exact ap8_ hN hi hnd hm40 (hnm rfl) om_ om_ (m3_ hT hk om_ om_ hzl) (hd_ (fun w' hw'=>v9_ hT ih m (i+1) _ _ _ w' hk om_ om_ hw' om_ rfl om_))
 ·rw [show aL_ 4 n=n from rfl] at hk hn6
  rw [show aC_ l (f+1) i=d8_ ⟨#[91]⟩ ⟨#[93]⟩ n.toNat (bU_ (aC_ l f) (a0_ l) (i+1) n.toNat) by
   rw [aC_,aD_ hi,hnd]
   simp only [show ¬ (4:Int)=1 by decide,show ¬ (4:Int)=2 by decide,show ¬ (4:Int)=3 by decide,if_false,if_true]]
  by_cases h0:n=0
  ·rw [show d8_ ⟨#[91]⟩ ⟨#[93]⟩ n.toNat (bU_ (aC_ l f) (a0_ l) (i+1) n.toNat)=aQ_ (⟨#[91]⟩++⟨#[93]⟩) by rw [h0];rfl]
   exact ap9_ hN hi hnd hm40 h0
  ·obtain ⟨m,rfl⟩:∃ m:Nat,n=(m:Int)+1:=⟨n.toNat-1,by omega⟩
   rw [show ((m:Int)+1).toNat=m+1 by omega] at hk ⊢
   have hzl:=(oZ_ hk om_).2
   rw [show d8_ ⟨#[91]⟩ ⟨#[93]⟩ (m+1) (bU_ (aC_ l f) (a0_ l) (i+1) (m+1))=cA_ (aN_ (aQ_ ⟨#[91]⟩) (aN_ (d4_ (aN_ (opN 3) (bU_ (aC_ l f) (a0_ l) (i+1) (m+1)))) (aN_ (opN 3) (aQ_ ⟨#[93]⟩)))) by simp [d8_]]
   exact apA_ hN hi hnd hm40 om_ om_ (m3_ hT hk om_ om_ hzl) (hd_ (fun w' hw'=>v9_ hT ih m (i+1) _ _ _ w' hk om_ om_ hw' om_ rfl om_))
 ·rw [show (aL_ 5 n).toNat=2 from rfl] at hk
  exact am9_
 ·rw [show (aL_ 6 n).toNat=2 from rfl] at hk
  exact am9_
 ·rw [show (aL_ 7 n).toNat=1 from rfl] at hk
  have q1:i+1<l.length:=hk.1
  have h99:=eA_ hT q1 om_
  rw [show aC_ l (f+1) i=cA_ (aN_ (aQ_ (⟨#[108,101,116,32]⟩++t++⟨#[32,61]⟩)) (d4_ (aN_ (opN 2) (aN_ (aC_ l f (i+1)) (aQ_ ⟨#[59]⟩))))) by
   rw [aC_,aD_ hi,hnd]
   simp only [show ¬ (7:Int)=1 by decide,show ¬ (7:Int)=2 by decide,show ¬ (7:Int)=3 by decide,show ¬ (7:Int)=4 by decide,show ¬ (7:Int)=5 by decide,show ¬ (7:Int)=6 by decide,if_false,if_true]]
  exact at5_ hN hi hnd hm40 (hnm rfl) (gE_ hT (f:=f) om_ q1 h99) (hd_ (fun w' hw'=>ih (i+1) ((i:Int)+1) w' om_ hw' q1 om_ h99))
 ·rw [show (aL_ 8 n).toNat=1 from rfl] at hk
  have q1:i+1<l.length:=hk.1
  have h99:=eA_ hT q1 om_
  rw [show aC_ l (f+1) i=aN_ (aC_ l f (i+1)) (aQ_ ⟨#[59]⟩) by
   rw [aC_,aD_ hi,hnd]
   simp only [show ¬ (8:Int)=1 by decide,show ¬ (8:Int)=2 by decide,show ¬ (8:Int)=3 by decide,show ¬ (8:Int)=4 by decide,show ¬ (8:Int)=5 by decide,show ¬ (8:Int)=6 by decide,show ¬ (8:Int)=7 by decide,if_false]]
  exact at6_ hN hi hnd hm40 (gE_ hT (f:=f) om_ q1 h99) (hd_ (fun w' hw'=>ih (i+1) ((i:Int)+1) w' om_ hw' q1 om_ h99))
end Go.Proofs.YtddfdmopaeghnadGreatDoor
