/- Walk of way.Of: the plan of a doc that may be. Condition: the slice of nodes lies below the call's own blocks and is a doc that may be. -/
import Derived.Test.YtddfdmopaeghnadGreatDoorRqOp
import Derived.Test.YtddfdmopaeghnadGreatDoorRqOs
import Derived.Deep.RegionWith
import Derived.Deep.DeepCutAuto
import Derived.Deep.RegionLaw
import Derived.BigRegion
import Derived.Deep.CutBlock
import Derived.BigQuiet
import Derived.Deep.QuietTactic
import Derived.IntWalk
set_option maxRecDepth 100000
set_option maxHeartbeats 16000000
namespace Go.Proofs.YtddfdmopaeghnadGreatDoor
open Go.RowKit
theorem ps_mk {w W:World} {B g gn gd ge:Nat} {A:Option Addr} {c:Nat} {l:List Nd} (hg:W.heap.size=g) (hB:B<=g)
  (hn:W.ownsRow B 3 1 (.slice (some ⟨gn,0,none⟩) l.length l.length) l.length (List.replicate l.length (.int .i64 0)))
  (hd:W.ownsRow B 3 1 (.slice (some ⟨gd,0,none⟩) l.length l.length) l.length (List.replicate l.length (.int .i64 0)))
  (he:W.ownsRow B 3 1 (.slice (some ⟨ge,0,none⟩) l.length l.length) l.length (endsL l)) (h1:gn≠gd) (h2:gn≠ge) (h3:gd≠ge) (hb:Below B w W) :
  ∃ p:PB,Value.pointer (some ⟨g,0,none⟩)=.pointer (some ⟨p.gp,0,none⟩)/\p.l=l/\p.A=A/\p.c=c /\
   PS B w p (List.replicate l.length (.int .i64 0)) (List.replicate l.length (.int .i64 0)) (.slice none 0 0) (.slice none 0 0) (.slice none 0 0) (.slice none 0 0) [] []
    (W.alloc (.cells #[.slice A l.length c,.slice (some ⟨gn,0,none⟩) l.length l.length,.slice (some ⟨gd,0,none⟩) l.length l.length,.slice (some ⟨ge,0,none⟩) l.length l.length,.slice none 0 0,.slice none 0 0] 235)) :=
 ⟨⟨g,gn,gd,ge,A,c,l⟩,rfl,rfl,rfl,rfl,⟨heap_new hg,hB,hn.alloc _,hd.alloc _,he.alloc _,h1,h2,h3,World.ownsRow_nil _ _ _ _,World.ownsRow_nil _ _ _ _,hb.alloc (by omega) _,by simp;omega⟩⟩
theorem str_info:(Tryz.prog.info? 9).map (fun i=>(i.zero,i.size,i.bytes))=some (some (.string .empty),1,16):=by kernel_rfl
theorem bool_info:(Tryz.prog.info? 4).map (fun i=>(i.zero,i.size,i.bytes))=some (some (.bool false),1,1):=by kernel_rfl
noncomputable def of_pre:(R1:Prop) ×' (R2:Prop) ×' (R3:Prop) ×' (R1->R2->R3->∀ (l:List Nd) (x:D) (A:Option Addr) (c:Nat) (w:World),Nds w w.heap.size A l->Doc l x->Calls Tryz.prog 89 #[.slice A l.length c] w (OfFrom l A c w)):=by
 constructor
 constructor
 constructor
 focus
  intro hR1 hR2 hR3 l x A c w hl hd
  have h400:=hd.len
  obtain ⟨i0,hi0,hz0,hz1,hz2⟩:=info_parts int_info
  obtain ⟨iS,hiS,hzS,hzS1,hzS2⟩:=info_parts str_info
  obtain ⟨iT,hiT,hzT,hzT1,hzT2⟩:=info_parts bool_info
  have hmk:∀ u:World,(Instr.makeSlice 73 (.int .i64 (l.length:Int)) (.int .i64 (l.length:Int))).run Tryz.prog u=.ok (.slice (some ⟨u.heap.size,0,none⟩) l.length l.length) (u.alloc (.cells (madeCells #[.int .i64 0] l.length) 3)):=fun u=>by
   have h:=run_make (P:=Tryz.prog) u 73 3 i0 (.int .i64 0) Tryz.underlying73 hi0 hz0 .i64 .i64 (l.length:Int) (l.length:Int) (by omega) (Int.le_refl _) (by rw [hz2];omega) (by omega)
   simpa [hz1,Value.cells] using h
  clear hi0 hz0 hz1 hz2
  have HM:Hid (l.length<=maxLen):=hd_ (by simp only [maxLen];omega)
  have HN:=hd_ hl;clear hl
  have HD:=hd_ hd;clear hd
  go_enter Tryz.func89,Tryz.ntmps89
  go_upto_region 1 with fail
  go_cut [3] (fun s3 wx=>∃ p:PB,s3=.pointer (some ⟨p.gp,0,none⟩)/\p.l=l/\p.A=A/\p.c=c/\PS w.heap.size w p (List.replicate l.length (.int .i64 0)) (List.replicate l.length (.int .i64 0)) (.slice none 0 0) (.slice none 0 0) (.slice none 0 0) (.slice none 0 0) [] [] wx)
  case first =>
   rename_i zK_0 za_0 zJ_0 zKq_0 za_1 za_2
   revert l x A c w h400 i0 iS hiS hzS hzS1 hzS2 iT hiT hzT hzT1 hzT2 hmk HM HN HD zK_0 za_0 zJ_0 zKq_0 za_1 za_2
   exact hR1
  case rest =>
   obtain ⟨⟨gp,gn,gd,ge,A',c',l'⟩,rfl,e1,e2,e3,hps⟩:=hcut
   simp only at e1 e2 e3
   subst e1 e2 e3
   clear hmk
   rename_i wx
   have HP:=hd_ hps;clear hps
   have hbw:=HP.out.bel
   go_wp2_with (go_at_call 157;refine (lines_any l' x A' c' _ (HN.out.past hbw) HD.out).mono ?_;rintro e w2 ⟨g,rfl,hown,hB2⟩)
   obtain ⟨cur,hcur⟩:∃ cur,w2.heap[g]?=some (.cells cur 239 (0,0)):=by
    rcases hown.2 with ⟨h,_⟩|⟨g',cap,cur,h,_,hg,_⟩
    ·cases h
    ·injection h with h1;cases h1;exact ⟨cur,hg⟩
   have hat:∀ k,k<l'.length->cur[k*2]?=some (.string (lineAt l' k).1)/\cur[k*2+1]?=some (.bool (lineAt l' k).2):=by
    intro k hk
    have h1:=linesL_at l' k hk
    rw [← Lib.cell_of_heap hcur,← Lib.cell_of_heap hcur,hown.cellAt (k*2) (by omega),hown.cellAt (k*2+1) (by omega)]
    exact h1
   have HA:=hd_ hat;clear hat hown
   have HP2:=hd_ (HP.out.past hB2)
   have HC:=hd_ hcur;clear hcur
   go_loopw [27] (fun i wr=>∃ (k:Nat) (fv iv:Value),k<=l'.length/\i=.int .i64 k/\PS w.heap.size w ⟨gp,gn,gd,ge,A',c',l'⟩ (List.replicate l'.length (.int .i64 0)) (List.replicate l'.length (.int .i64 0)) fv iv fv iv (txs l' k) (iss l' k) wr/\wr.heap[g]?=some (.cells cur 239 (0,0))) (fun i _=>l'.length-(intOf i).toNat)
   case atStart=>exact ⟨0,_,_,by omega,rfl,HP2.out,HC.out⟩
   case round =>
    obtain ⟨k,fv,iv,hk,rfl,hp,hg⟩:=hrel
    have HQ:=hd_ hp;clear hp
    have HG:=hd_ hg;clear hg
    by_cases hlt:k<l'.length
    ·obtain ⟨e1,e2⟩:=HA.out k hlt
     obtain ⟨s,b,hsb⟩:∃ s b,lineAt l' k=(s,b):=⟨_,_,rfl⟩
     rw [hsb] at e1 e2
     have HSB:=hd_ hsb;clear hsb
     have c1:wr.cell? ⟨g,k*2,none⟩=some (.string s):=by rw [Lib.cell_of_heap HG.out];exact e1
     have c2:wr.cell? ⟨g,k*2+1,none⟩=some (.bool b):=by rw [Lib.cell_of_heap HG.out];exact e2
     have hgl:=lt_of_heap HG.out
     clear e1 e2
     have hgg:g≠gp:=by
      intro e
      have h1:=HG.out
      rw [e,HQ.out.blk] at h1
      simp at h1
     have HGF:Hid (fv.ownBlock≠some g):=hd_ (row_blk HQ.out.flat HG.out (by decide))
     have HGI:Hid (iv.ownBlock≠some g):=hd_ (row_blk HQ.out.isb HG.out (by decide))
     go_upto_block 1 with fail
     go_cut [] (fun wx=>∃ fv' iv':Value,PS w.heap.size w ⟨gp,gn,gd,ge,A',c',l'⟩ (List.replicate l'.length (.int .i64 0)) (List.replicate l'.length (.int .i64 0)) fv' iv' fv' iv' (txs l' (k+1)) (iss l' (k+1)) wx/\wx.heap[g]?=some (.cells cur 239 (0,0)))
     case first =>
      rename_i zu28_0 zu29_0 zu30_0 zu31_0 zu32_0 zu33_0 zu34_0 zu35_0 zu36_0 zu37_0 zu38_0 zu39_0 zu40_0 zu41_0 zu42_0 zu43_0 zu44_0 zu45_0 zu46_0 zu47_0 zu48_0 zu49_0 zu50_0 zu51_0 zu52_0 zu53_0 zu54_0 zu55_0 zu56_0 zK_0 za_0 zQq_0 zK_1 za_1 zJ_0 zKq_0 za_2 za_3
      revert x w i0 iS hiS hzS hzS1 hzS2 iT hiT hzT hzT1 hzT2 wc u13 u14 u15 u16 u17 u18 u19 u20 u21 u22 u23 u24 zu28_0 zu29_0 zu30_0 zu31_0 zu32_0 zu33_0 zu34_0 zu35_0 zu36_0 zu37_0 zu38_0 zu39_0 zu40_0 zu41_0 zu42_0 zu43_0 zu44_0 zu45_0 zu46_0 zu47_0 zu48_0 zu49_0 zu50_0 zu51_0 zu52_0 zu53_0 zu54_0 zu55_0 zu56_0 u57 u58 u59 u60 u61 u62 u63 u64 u65 u66 u70 u71 u72 u73 u74 u75 u76 u77 u78 u79 u80 u81 u82 u83 u84 u87 u88 u89 u90 u91 u92 u93 u94 u95 u96 u97 u98 u99 u100 u101 u102 u103 u104 u105 u106 u107 u108 u109 u110 u111 u112 u113 u114 u115 u116 u117 u118 u119 u120 u121 u122 u123 u124 u125 u126 u127 u128 u129 u130 u131 u133 u134 u135 u136 u137 u138 u139 u140 u141 u142 u143 u144 u145 u146 u147 u148 u149 u150 u151 u152 u153 u154 u155 u156 u157 u158 u159 u160 u161 u162 u163 u164 u165 u166 u167 u168 u169 u170 u171 u172 u173 u174 u175 u176 u177 u178 u179 u180 u181 u182 u183 u185 u186 u187 u188 u189 u190 u191 u192 u193 u194 u195 u196 u197 u198 u199 u200 u201 u202 u203 u204 u205 u206 u207 u208 u209 u210 gp gn gd ge A' c' l' h400 HM HD HN HP hbw zK_0 za_0 w2 g hB2 cur HA HP2 HC wr u5 u6 u7 u28 u29 u30 u31 u32 u33 u34 u35 u36 u37 u38 u39 u40 u41 u42 u43 u44 u45 u46 u47 u48 u49 u50 u51 u52 u53 u54 u55 u56 k fv iv hk HQ HG hlt s b HSB c1 c2 hgl hgg HGF HGI zQq_0 zK_1 za_1 zJ_0 zKq_0 za_2 za_3
      exact hR2
     case rest =>
      obtain ⟨fv',iv',hps,hgc⟩:=hcut
      go_wp2
      go_roundw
      case measure=>simp [intOf];omega
      case rel=>exact ⟨k+1,fv',iv',by omega,by go_num,hps,hgc⟩
    ·obtain rfl:k=l'.length:=by omega
     have hn0:0<l'.length:=HD.out.pos
     obtain ⟨e0,e1,e2,e3,_,_⟩:=HQ.out.cells
     have x1:wr.cell? ⟨gn,0,none⟩=some (.int .i64 0):=by
      rw [HQ.out.next.cellAt 0 (by rw [Nat.mul_one];exact hn0)];simp [hn0]
     have x2:=HQ.out.next.frozenAt 0
     go_wp2_with fail
     have HP3:=hd_ (HQ.out.setNext 0 (.int .i64 (l'.length:Nat)))
     have hpos:=HD.out.pos
     have hfil:Filled l' 0 ((List.replicate l'.length (Value.int .i64 0)).set 0 (.int .i64 (l'.length:Nat))) (List.replicate l'.length (Value.int .i64 0)):=by
      refine ⟨by simp,by simp,fun j hj hc=>?_⟩
      rcases hc with rfl|⟨q,hq,_⟩
      ·rw [HD.out.root_plan.1,HD.out.root_plan.2]
       exact ⟨by simp [hpos],by simp [hpos]⟩
      ·omega
     have HFL:=hd_ hfil
     clear hfil e0 e1 e2 e3 x1 x2
     generalize (List.replicate l'.length (Value.int .i64 0)).set 0 (.int .i64 (l'.length:Nat))=nx0 at *
     generalize List.replicate l'.length (Value.int .i64 0)=dp0 at *
     generalize wr.setCell ⟨gn,0,none⟩ (.int .i64 (l'.length:Nat))=w4 at *
     obtain ⟨TX,hTX⟩:∃ TX,txs l' l'.length=TX:=⟨_,rfl⟩
     obtain ⟨IS,hIS⟩:∃ IS,iss l' l'.length=IS:=⟨_,rfl⟩
     rw [hTX,hIS] at HP3
     have HTX:=hd_ hTX;have HIS:=hd_ hIS;clear hTX hIS
     clear HQ HA HG HC HP2 hlt
     go_loopw [69] (fun i wr=>∃ (k:Nat) (nx dp:List Value),k<=l'.length/\i=.int .i64 k/\PS w.heap.size w ⟨gp,gn,gd,ge,A',c',l'⟩ nx dp fv iv fv iv TX IS wr/\Filled l' k nx dp) (fun i _=>l'.length-(intOf i).toNat)
     case atStart=>exact ⟨0,_,_,by omega,rfl,HP3.out,HFL.out⟩
     case round =>
      rename_i zu28_0 zu29_0 zu30_0 zu31_0 zu32_0 zu33_0 zu34_0 zu35_0 zu36_0 zu37_0 zu38_0 zu39_0 zu40_0 zu41_0 zu42_0 zu43_0 zu44_0 zu45_0 zu46_0 zu47_0 zu48_0 zu49_0 zu50_0 zu51_0 zu52_0 zu53_0 zu54_0 zu55_0 zu56_0 zu70_0 zu71_0 zu72_0 zu73_0 zu74_0 zu75_0 zu76_0 zu77_0 zu78_0 zu79_0 zu80_0 zu81_0 zu82_0 zu83_0 zu84_0 zu87_0 zu88_0 zu89_0 zu90_0 zu91_0 zu92_0 zu93_0 zu94_0 zu95_0 zu96_0 zu97_0 zu98_0 zu99_0 zu100_0 zu101_0 zu102_0 zu103_0 zu104_0 zu105_0 zu106_0 zu107_0 zu108_0 zu109_0 zu110_0 zu111_0 zu112_0 zu113_0 zu114_0 zu115_0 zu116_0 zu117_0 zu118_0 zu119_0 zu120_0 zu121_0 zu122_0 zu123_0 zu124_0 zu125_0 zu126_0 zu127_0 zu128_0 zu129_0 zu130_0 zu131_0 zu133_0 zu134_0 zu135_0 zu136_0 zu137_0 zu138_0 zu139_0 zu140_0 zu141_0 zu142_0 zu143_0 zu144_0 zu145_0 zu146_0 zu147_0 zu148_0 zu149_0 zu150_0 zu151_0 zu152_0 zu153_0 zu154_0 zu155_0 zu156_0 zu157_0 zu158_0 zu159_0 zu160_0 zu161_0 zu162_0 zu163_0 zu164_0 zu165_0 zu166_0 zu167_0 zu168_0 zu169_0 zu170_0 zu171_0 zu172_0 zu173_0 zu174_0 zu175_0 zu176_0 zu177_0 zu178_0 zu179_0 zu180_0 zu181_0 zu182_0 zu183_0 zu185_0 zu186_0 zu187_0 zu188_0 zu189_0 zu190_0 zu191_0 zu192_0 zu193_0 zu194_0 zu195_0 zu196_0 zu197_0 zu198_0 zu199_0 zu200_0 zu201_0 zu202_0 zu203_0 zu204_0 zu205_0 zu206_0 zu207_0 zu208_0 zu209_0 zK_0 zwr_0 zleft_0 zright_0 zQq_0 zK_1 za_0 zK_2 za_1
      revert x w i0 iS hiS hzS hzS1 hzS2 iT hiT hzT hzT1 hzT2 wc u13 u14 u15 u16 u17 u18 u19 u20 u21 u22 u23 u24 zu28_0 zu29_0 zu30_0 zu31_0 zu32_0 zu33_0 zu34_0 zu35_0 zu36_0 zu37_0 zu38_0 zu39_0 zu40_0 zu41_0 zu42_0 zu43_0 zu44_0 zu45_0 zu46_0 zu47_0 zu48_0 zu49_0 zu50_0 zu51_0 zu52_0 zu53_0 zu54_0 zu55_0 zu56_0 u57 u58 u59 u60 u61 u62 u63 u64 u65 u66 zu70_0 zu71_0 zu72_0 zu73_0 zu74_0 zu75_0 zu76_0 zu77_0 zu78_0 zu79_0 zu80_0 zu81_0 zu82_0 zu83_0 zu84_0 zu87_0 zu88_0 zu89_0 zu90_0 zu91_0 zu92_0 zu93_0 zu94_0 zu95_0 zu96_0 zu97_0 zu98_0 zu99_0 zu100_0 zu101_0 zu102_0 zu103_0 zu104_0 zu105_0 zu106_0 zu107_0 zu108_0 zu109_0 zu110_0 zu111_0 zu112_0 zu113_0 zu114_0 zu115_0 zu116_0 zu117_0 zu118_0 zu119_0 zu120_0 zu121_0 zu122_0 zu123_0 zu124_0 zu125_0 zu126_0 zu127_0 zu128_0 zu129_0 zu130_0 zu131_0 zu133_0 zu134_0 zu135_0 zu136_0 zu137_0 zu138_0 zu139_0 zu140_0 zu141_0 zu142_0 zu143_0 zu144_0 zu145_0 zu146_0 zu147_0 zu148_0 zu149_0 zu150_0 zu151_0 zu152_0 zu153_0 zu154_0 zu155_0 zu156_0 zu157_0 zu158_0 zu159_0 zu160_0 zu161_0 zu162_0 zu163_0 zu164_0 zu165_0 zu166_0 zu167_0 zu168_0 zu169_0 zu170_0 zu171_0 zu172_0 zu173_0 zu174_0 zu175_0 zu176_0 zu177_0 zu178_0 zu179_0 zu180_0 zu181_0 zu182_0 zu183_0 zu185_0 zu186_0 zu187_0 zu188_0 zu189_0 zu190_0 zu191_0 zu192_0 zu193_0 zu194_0 zu195_0 zu196_0 zu197_0 zu198_0 zu199_0 zu200_0 zu201_0 zu202_0 zu203_0 zu204_0 zu205_0 zu206_0 zu207_0 zu208_0 zu209_0 u210 gp gn gd ge A' c' l' h400 HM HD HN hbw zK_0 w2 g hB2 cur zwr_0 u5 u6 u7 u28 u29 u30 u31 u32 u33 u34 u35 u36 u37 u38 u39 u40 u41 u42 u43 u44 u45 u46 u47 u48 u49 u50 u51 u52 u53 u54 u55 u56 fv iv hk hn0 zleft_0 zright_0 zQq_0 zK_1 za_0 zK_2 za_1 hpos nx0 dp0 HP HFL w4 TX IS HP3 HTX HIS wr u8 u9 u10 u11 u12 u69 u70 u71 u72 u73 u74 u75 u76 u77 u78 u79 u80 u81 u82 u83 u84 u85 u86 u87 u88 u89 u90 u91 u92 u93 u94 u95 u96 u97 u98 u99 u100 u101 u102 u103 u104 u105 u106 u107 u108 u109 u110 u111 u112 u113 u114 u115 u116 u117 u118 u119 u120 u121 u122 u123 u124 u125 u126 u127 u128 u129 u130 u131 u132 u133 u134 u135 u136 u137 u138 u139 u140 u141 u142 u143 u144 u145 u146 u147 u148 u149 u150 u151 u152 u153 u154 u155 u156 u157 u158 u159 u160 u161 u162 u163 u164 u165 u166 u167 u168 u169 u170 u171 u172 u173 u174 u175 u176 u177 u178 u179 u180 u181 u182 u183 u184 u185 u186 u187 u188 u189 u190 u191 u192 u193 u194 u195 u196 u197 u198 u199 u200 u201 u202 u203 u204 u205 u206 u207 u208 u209 hrel
      exact hR3
end Go.Proofs.YtddfdmopaeghnadGreatDoor
