/- way.Of: the walk's heavy part 3. Nothing else. -/
import Derived.Test.YtddfdmopaeghnadGreatDoorRqOa
set_option maxRecDepth 100000
set_option maxHeartbeats 16000000
namespace Go.Proofs.YtddfdmopaeghnadGreatDoor
open Go.RowKit
theorem rq35 {P:Prop} (h:P:=by
 as_aux_lemma =>
  have hp2:parts l'[k].op=1:=by rw [HND.out];rfl
  have hkl:=(HD.out.plan_un hlt hp2).1
  have HP2:=hd_ hp2;clear hp2
  obtain ⟨v1,z1⟩:=HQ.out.next.someAt (j:=k+1) hkl
  obtain ⟨v3,z3⟩:=HQ.out.deep.someAt (j:=k+1) hkl
  have f1:=HQ.out.next.frozenAt (k+1)
  have f3:=HQ.out.deep.frozenAt (k+1)
  go_wp2_with fail
  go_quiet (fail)
  clear k1
  have k1:IntKind.i64.wrap ((k:Int)+1)=(k:Int)+1:=IntWalk.i64_in _ (by omega)
  have k2:(0:Int)<=(k:Int)+1:=by omega
  have k3:((k:Int)+1).toNat=k+1:=by omega
  have k4:(k:Int)+1<(l'.length:Int):=by omega
  have k6:(k:Int)<(l'.length:Int):=by omega
  go_wp2_with fail
  go_region
  clear k1 k2 k3 k4 k6
  go_wp2_with fail
  go_roundw
  case measure=>simp [intOf];omega
  case rel=>exact ⟨k+1,_,_,by omega,by go_num,((((HQ.out.alloc _).drewN _).setNext (k+1) _).setDeep (k+1) _),HFK.out.un HD.out hlt HP2.out (by rw [HNx.out]) (by rw [HDp.out,HND.out])⟩):P:=h
theorem rq36 {P:Prop} (h:P:=by
 rw [HQ.out.ends.cellAt (k+1) (by rw [Nat.mul_one];show k+1<l'.length;omega),← hq]
 simp [endsL,show k+1<l'.length by omega]):P:=h
theorem of_part3:of_pre.2.2.1:=by
 intro x w i0 iS hiS hzS hzS1 hzS2 iT hiT hzT hzT1 hzT2 wc u13 u14 u15 u16 u17 u18 u19 u20 u21 u22 u23 u24 zu28_0 zu29_0 zu30_0 zu31_0 zu32_0 zu33_0 zu34_0 zu35_0 zu36_0 zu37_0 zu38_0 zu39_0 zu40_0 zu41_0 zu42_0 zu43_0 zu44_0 zu45_0 zu46_0 zu47_0 zu48_0 zu49_0 zu50_0 zu51_0 zu52_0 zu53_0 zu54_0 zu55_0 zu56_0 u57 u58 u59 u60 u61 u62 u63 u64 u65 u66 zu70_0 zu71_0 zu72_0 zu73_0 zu74_0 zu75_0 zu76_0 zu77_0 zu78_0 zu79_0 zu80_0 zu81_0 zu82_0 zu83_0 zu84_0 zu87_0 zu88_0 zu89_0 zu90_0 zu91_0 zu92_0 zu93_0 zu94_0 zu95_0 zu96_0 zu97_0 zu98_0 zu99_0 zu100_0 zu101_0 zu102_0 zu103_0 zu104_0 zu105_0 zu106_0 zu107_0 zu108_0 zu109_0 zu110_0 zu111_0 zu112_0 zu113_0 zu114_0 zu115_0 zu116_0 zu117_0 zu118_0 zu119_0 zu120_0 zu121_0 zu122_0 zu123_0 zu124_0 zu125_0 zu126_0 zu127_0 zu128_0 zu129_0 zu130_0 zu131_0 zu133_0 zu134_0 zu135_0 zu136_0 zu137_0 zu138_0 zu139_0 zu140_0 zu141_0 zu142_0 zu143_0 zu144_0 zu145_0 zu146_0 zu147_0 zu148_0 zu149_0 zu150_0 zu151_0 zu152_0 zu153_0 zu154_0 zu155_0 zu156_0 zu157_0 zu158_0 zu159_0 zu160_0 zu161_0 zu162_0 zu163_0 zu164_0 zu165_0 zu166_0 zu167_0 zu168_0 zu169_0 zu170_0 zu171_0 zu172_0 zu173_0 zu174_0 zu175_0 zu176_0 zu177_0 zu178_0 zu179_0 zu180_0 zu181_0 zu182_0 zu183_0 zu185_0 zu186_0 zu187_0 zu188_0 zu189_0 zu190_0 zu191_0 zu192_0 zu193_0 zu194_0 zu195_0 zu196_0 zu197_0 zu198_0 zu199_0 zu200_0 zu201_0 zu202_0 zu203_0 zu204_0 zu205_0 zu206_0 zu207_0 zu208_0 zu209_0 u210 gp gn gd ge A' c' l' h400 HM HD HN hbw zK_0 w2 g hB2 cur zwr_0 u5 u6 u7 u28 u29 u30 u31 u32 u33 u34 u35 u36 u37 u38 u39 u40 u41 u42 u43 u44 u45 u46 u47 u48 u49 u50 u51 u52 u53 u54 u55 u56 fv iv hk hn0 zleft_0 zright_0 zQq_0 zK_1 za_0 zK_2 za_1 hpos nx0 dp0 HP HFL w4 TX IS HP3 HTX HIS wr u8 u9 u10 u11 u12 u69 u70 u71 u72 u73 u74 u75 u76 u77 u78 u79 u80 u81 u82 u83 u84 u85 u86 u87 u88 u89 u90 u91 u92 u93 u94 u95 u96 u97 u98 u99 u100 u101 u102 u103 u104 u105 u106 u107 u108 u109 u110 u111 u112 u113 u114 u115 u116 u117 u118 u119 u120 u121 u122 u123 u124 u125 u126 u127 u128 u129 u130 u131 u132 u133 u134 u135 u136 u137 u138 u139 u140 u141 u142 u143 u144 u145 u146 u147 u148 u149 u150 u151 u152 u153 u154 u155 u156 u157 u158 u159 u160 u161 u162 u163 u164 u165 u166 u167 u168 u169 u170 u171 u172 u173 u174 u175 u176 u177 u178 u179 u180 u181 u182 u183 u184 u185 u186 u187 u188 u189 u190 u191 u192 u193 u194 u195 u196 u197 u198 u199 u200 u201 u202 u203 u204 u205 u206 u207 u208 u209 hrel
 obtain ⟨k,nx,dp,hk,rfl,hp,hfl⟩:=hrel
 have HQ:=hd_ hp;have HFK:=hd_ hfl
 clear hp hfl HP3 HFL
 by_cases hlt:k<l'.length
 ·have hbw:=HQ.out.bel
  obtain ⟨b,off,op,t,n,rfl,hb,hnd,hts,d1,d2,d3⟩:=HN.out.node hbw hlt
  have hone:=HD.out.one _ (List.getElem_mem hlt)
  rw [hnd] at hone
  have hn8:0<=n/\n<=8:=oneF_n (d:=⟨op,t,n⟩) hone
  have hops:=HD.out.ops hlt hnd
  have hdb:=HD.out.deep_bd k hlt
  have HND:=hd_ hnd;clear hnd hone
  obtain ⟨e0,e1,e2,e3,_,_⟩:=HQ.out.cells
  dsimp only at e0 e1 e2 e3
  obtain ⟨y1,y2⟩:=HFK.out.at_ HD.out hlt
  have x1:wr.cell? ⟨gn,k,none⟩=some (.int .i64 (nextAt l' k:Nat)):=by rw [HQ.out.next.cellAt k (by rw [Nat.mul_one];exact hlt)];exact y1
  have x2:wr.cell? ⟨gd,k,none⟩=some (.int .i64 (deepAt l' k)):=by rw [HQ.out.deep.cellAt k (by rw [Nat.mul_one];exact hlt)];exact y2
  clear y1 y2
  have g1:=HQ.out.gplt
  have g2:=(HQ.out.next.lt gn rfl).2
  have g3:=(HQ.out.deep.lt gd rfl).2
  have g4:=(HQ.out.ends.lt ge rfl).2
  have hbs:=Nat.lt_of_lt_of_le hb hbw.size
  dsimp only at g1
  obtain ⟨a1,a2,a3⟩:=HQ.out.apart
  dsimp only at a1 a2 a3
  have a4:¬ gd=gn:=fun e=>a3 e.symm
  have a5:¬ gn=gp:=fun e=>a1 e.symm
  have a6:¬ gd=gp:=fun e=>a2 e.symm
  have HB:=hd_ hbw;clear hbw
  obtain ⟨hd1,hd2⟩:=hdb
  generalize hDp:deepAt l' k=Dp at *
  generalize hNx:nextAt l' k=Nx at *
  have HDp:=hd_ hDp;have HNx:=hd_ hNx;clear hDp hNx
  have k1:IntKind.i64.wrap (Dp+n)=Dp+n:=IntWalk.i64_in _ (by omega)
  rcases hops with rfl|rfl|rfl|rfl|rfl|rfl|rfl|rfl|rfl
  case inr.inr.inr.inr.inr.inl =>
   as_aux_lemma =>
    have hp2:parts l'[k].op=2:=by rw [HND.out];rfl
    obtain ⟨q,hq,hkq,hql⟩:∃ q,endAt l' (k+1)=q/\k+1<q/\q<l'.length:=⟨_,rfl,(HD.out.plan_bin hlt hp2).1,(HD.out.plan_bin hlt hp2).2.1⟩
    have x3:wr.cell? ⟨ge,k+1,none⟩=some (.int .i64 (q:Nat)):=by
     exact rq36
    have HE:=hd_ hq;have HP2:=hd_ hp2;clear hq hp2
    obtain ⟨v1,z1⟩:=HQ.out.next.someAt (j:=k+1) (by show k+1<l'.length;omega)
    obtain ⟨v2,z2⟩:=HQ.out.next.someAt (j:=q) hql
    obtain ⟨v3,z3⟩:=HQ.out.deep.someAt (j:=k+1) (by show k+1<l'.length;omega)
    obtain ⟨v4,z4⟩:=HQ.out.deep.someAt (j:=q) hql
    have f1:=HQ.out.next.frozenAt (k+1)
    have f2:=HQ.out.next.frozenAt q
    have f3:=HQ.out.deep.frozenAt (k+1)
    have f4:=HQ.out.deep.frozenAt q
    go_wp2_with fail
    go_quiet (fail)
    clear k1
    have k1:IntKind.i64.wrap ((k:Int)+1)=(k:Int)+1:=IntWalk.i64_in _ (by omega)
    have k2:(0:Int)<=(k:Int)+1:=by omega
    have k3:((k:Int)+1).toNat=k+1:=by omega
    have k4:(k:Int)+1<(l'.length:Int):=by omega
    have k5:(q:Int)<(l'.length:Int):=by omega
    have k6:(k:Int)<(l'.length:Int):=by omega
    go_wp2_with fail
    go_region
    go_wp2_with fail
    go_region
    clear k1 k2 k3 k4 k5 k6
    go_wp2_with fail
    go_roundw
    case measure=>simp [intOf];omega
    case rel=>exact ⟨k+1,_,_,by omega,by go_num,((((((HQ.out.alloc _).drewN _).setNext (k+1) _).setNext q _).setDeep (k+1) _).setDeep q _).drew,HFK.out.bin HD.out hlt HP2.out HE.out (by rw [HND.out,if_pos rfl]) (by rw [HNx.out]) (by rw [HDp.out,HND.out]) (.inl rfl) (.inl rfl)⟩
  case inr.inr.inr.inr.inr.inr.inr.inr =>
   as_aux_lemma =>
    have hp2:parts l'[k].op=2:=by rw [HND.out];rfl
    obtain ⟨q,hq,hkq,hql⟩:∃ q,endAt l' (k+1)=q/\k+1<q/\q<l'.length:=⟨_,rfl,(HD.out.plan_bin hlt hp2).1,(HD.out.plan_bin hlt hp2).2.1⟩
    have x3:wr.cell? ⟨ge,k+1,none⟩=some (.int .i64 (q:Nat)):=by
     exact rq36
    have HE:=hd_ hq;have HP2:=hd_ hp2;clear hq hp2
    obtain ⟨v1,z1⟩:=HQ.out.next.someAt (j:=k+1) (by show k+1<l'.length;omega)
    obtain ⟨v2,z2⟩:=HQ.out.next.someAt (j:=q) hql
    obtain ⟨v3,z3⟩:=HQ.out.deep.someAt (j:=k+1) (by show k+1<l'.length;omega)
    obtain ⟨v4,z4⟩:=HQ.out.deep.someAt (j:=q) hql
    have f1:=HQ.out.next.frozenAt (k+1)
    have f2:=HQ.out.next.frozenAt q
    have f3:=HQ.out.deep.frozenAt (k+1)
    have f4:=HQ.out.deep.frozenAt q
    go_wp2_with fail
    go_quiet (fail)
    clear k1
    have k1:IntKind.i64.wrap ((k:Int)+1)=(k:Int)+1:=IntWalk.i64_in _ (by omega)
    have k2:(0:Int)<=(k:Int)+1:=by omega
    have k3:((k:Int)+1).toNat=k+1:=by omega
    have k4:(k:Int)+1<(l'.length:Int):=by omega
    have k5:(q:Int)<(l'.length:Int):=by omega
    have k6:(k:Int)<(l'.length:Int):=by omega
    go_wp2_with fail
    go_region
    go_wp2_with fail
    go_region
    clear k1 k2 k3 k4 k5 k6
    go_wp2_with fail
    go_roundw
    case measure=>simp [intOf];omega
    case rel=>exact ⟨k+1,_,_,by omega,by go_num,((((((HQ.out.alloc _).drewN _).setNext (k+1) _).setNext q _).setDeep (k+1) _).setDeep q _).drew,HFK.out.bin HD.out hlt HP2.out HE.out (by rw [HND.out];show Value.int .i64 (Nx:Nat)=.int .i64 ((if (9:Int)=6 then q else nextAt l' k:Nat));rw [if_neg (by decide),HNx.out]) (by rw [HNx.out]) (by rw [HDp.out,HND.out]) (.inl rfl) (.inl rfl)⟩
  case inr.inr.inr.inr.inr.inr.inl =>
   exact rq35
  case inr.inr.inr.inr.inr.inr.inr.inl =>
   exact rq35
  all_goals
   as_aux_lemma =>
    have hp0:parts l'[k].op=0:=by rw [HND.out];rfl
    have HP0:=hd_ hp0;clear hp0
    go_wp2_with fail
    go_quiet (fail)
    clear k1
    go_wp2_with fail
    go_roundw
    case measure=>simp [intOf];omega
    case rel=>exact ⟨k+1,_,_,by omega,by go_num,((HQ.out.alloc _).drewN _),HFK.out.leaf hlt HP0.out⟩
 ·obtain rfl:k=l'.length:=by omega
  go_wp2
  go_ret
  have hq:=HQ.out
  rw [← HTX.out,← HIS.out] at hq
  exact ⟨gp,rfl,hq.planFrom HD.out HFK.out,hq.bel⟩
end Go.Proofs.YtddfdmopaeghnadGreatDoor
