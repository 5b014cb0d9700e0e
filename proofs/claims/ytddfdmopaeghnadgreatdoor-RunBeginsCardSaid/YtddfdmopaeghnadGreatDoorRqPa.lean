/- Walks: page. With what it rests on. Conditions: as each theorem states them. -/
import Derived.Test.YtddfdmopaeghnadGreatDoorRqFi
import Derived.Test.YtddfdmopaeghnadGreatDoorRqBe
import Derived.Test.YtddfdmopaeghnadGreatDoorRqTk
set_option maxRecDepth 100000
set_option maxHeartbeats 16000000
namespace Go.Proofs.YtddfdmopaeghnadGreatDoor
open Go.RowKit
def wideF (W:Int):Bool:=decide (10<=W)&&decide (W<=100)
theorem rq57 {P:Prop} (h:P:=by
 go_enter Tryz.func23,Tryz.ntmps23
 go_wp2
 go_ret
 exact ⟨by first|rfl|(simp;done)|(simp;omega),rfl⟩):P:=h
theorem wide_any (W:Int) (w:World):Calls Tryz.prog 23 #[.int .i64 W] w fun e w'=>e=.returned (.bool (wideF W))/\w=w':=by
 by_cases h1:10<=W
 ·by_cases h2:W<=100
  ·have hr:wideF W=true:=by simp [wideF,h1,h2]
   rw [hr]
   exact rq57
  ·have hr:wideF W=false:=by simp [wideF,h2]
   rw [hr]
   exact rq57
 ·have hr:wideF W=false:=by simp [wideF,h1]
  rw [hr]
  have h3:decide (W≥10)=false:=decide_eq_false h1
  exact rq57
theorem wideF_iff {W:Int}:wideF W=true↔10<=W/\W<=100:=by simp [wideF]
def noteT (x:ByteArray) (W:Int):ByteArray:=if noteL x=[] then ⟨#[35,10]⟩ else noteB (fillW (W-2) (noteL x))
theorem note_few {x:ByteArray} (h1:treeOne 9 x 0=0) {W:Int} (hw:wideF W=true):Few (W-2) (noteL x)/\checkedF (noteL x) (W-2)=0:=by
 have hwf:wordsF (noteL x)=0:=by
  unfold treeOne at h1
  split at h1
  ·cases h1
  ·split at h1
   ·cases h1
   ·simpa using h1
 obtain ⟨h2,h3⟩:=wordsF_facts hwf
 obtain ⟨w1,w2⟩:=wideF_iff.1 hw
 refine ⟨⟨h2,fun t ht=>(wordF_facts (h3 t ht)).2.1,by omega,by omega⟩, ?_⟩
 unfold checkedF
 simp only [hwf]
 split
 ·rename_i h;exact absurd rfl h
 ·split
  ·omega
  ·rfl
theorem pnoteT_any {x:ByteArray} {n:Nat} (hn:n=1) {W:Int} (h1:treeF [⟨9,x,0⟩]=0) (hw:wideF W=true) (A:Option Addr) (c:Nat) (w:World) (hl:Nds w w.heap.size A [⟨9,x,0⟩]) (hsh:Short [⟨9,x,0⟩]) (hm:MaxL w) :
  Calls Tryz.prog 46 #[.slice A n c,.int .i64 W] w fun e w'=>e=.returned (.tuple #[.string (noteT x W),.nilIface])/\Below w.heap.size w w':=by
 subst hn
 have hone:treeOne 9 x 0=0:=(Tr.of_check h1).one ⟨9,x,0⟩ (by simp)
 obtain ⟨hfew,hck⟩:=note_few hone hw
 obtain ⟨w1,w2⟩:=wideF_iff.1 hw
 have HN:=hd_ (lnote_cap [⟨9,x,0⟩] A c w hl hsh hm h1 (n:=0) (t:=x) rfl)
 have k1:IntKind.i64.wrap (W-2)=W-2:=IntWalk.i64_in _ (by omega)
 unfold LnToC at HN
 clear hl hsh hm h1 hone hw
 by_cases h0:noteL x=[]
 ·have hr:noteT x W=⟨#[35,10]⟩:=by rw [noteT,if_pos h0]
  rw [hr]
  rw [h0] at HN
  clear hr hfew hck h0
  go_enter Tryz.func46,Tryz.ntmps46
  go_wp2_with (go_at_call 85;refine HN.out.mono ?_;rintro e w1 ⟨A1,c1,rfl,-,hB1,-⟩;have HB:=hd_ hB1;clear hB1)
  go_ret2
  exact ⟨rfl,HB.out⟩
 ·have hr:noteT x W=noteB (fillW (W-2) (noteL x)):=by rw [noteT,if_neg h0]
  rw [hr]
  have hfl:=hfew.fill_small
  have HF:=hd_ (fun A1 c1 w' hcap hl'=>fill_ok (noteL x) A1 _ c1 rfl hcap (W-2) w' hl' hfew hck)
  have hlen:((noteL x).length:Int)≠0:=by
   intro e
   exact h0 (List.eq_nil_of_length_eq_zero (by omega))
  have hlen2:(((noteL x).length:Int)==0)=false:=by simpa using hlen
  generalize fillW (W-2) (noteL x)=L at *
  unfold FillTo at HF
  obtain ⟨hl60,hls⟩:=hfl
  have HSTEP:=hd_ (fun k (hk:k<L.length)=>noteB_step hk)
  have HSZ:Hid (∀ k,(noteB (L.take k)).size<=80000):=hd_ (fun k=>by
   have h:=noteB_size (l:=L.take k) (fun u hu=>hls u (List.mem_of_mem_take hu))
   have h2:=List.length_take_le k L
   have h3:(L.take k).length<=60:=by rw [List.length_take];omega
   omega)
  have HE:Hid (∀ k,L.length<=k->noteB (L.take k)=noteB L):=hd_ (fun k hk=>by rw [List.take_of_length_le hk])
  have HLS:=hd_ hls
  generalize noteB L=Z at *
  clear hr hfew hck h0 hlen hls
  go_enter Tryz.func46,Tryz.ntmps46
  go_wp2_with (first
   | (go_at_call 85;refine HN.out.mono ?_;rintro e w1 ⟨A1,c1,rfl,hT1,hB1,hcap1⟩;have HT:=hd_ hT1;have HB:=hd_ hB1;have HCAP:=hd_ hcap1;have hz1:=hB1.size;clear hB1 hT1 hcap1)
   | (go_at_call 86;refine (HF.out A1 c1 _ HCAP.out HT.out).mono ?_;rintro e w2 ⟨A2,c2,rfl,hT2,hB2⟩;have HT2:=hd_ hT2;have HB:=hd_ (HB.out.trans (hB2.mono hz1));have hz2:=HB.out.size;clear hB2 hT2))
  have hb1:Below w2.heap.size w2 (w2.alloc (.cells #[.pointer none,.slice none 0 0] 88)):=(Below.refl _ _).alloc (Nat.le_refl _) _
  have HBD:Hid (Bld w2.heap.size w2.heap.size .empty (w2.alloc (.cells #[.pointer none,.slice none 0 0] 88))):=hd_ (Bld.new w2)
  have HB0:=hd_ (HB.out.trans (hb1.mono hz2))
  have HT2':=hd_ (HT2.out)
  clear hb1
  go_loopw [34] (fun i wr=>∃ k:Nat,k<=L.length/\i=.int .i64 k/\Hid (Bld w2.heap.size w2.heap.size (noteB (L.take k)) wr)/\Hid (Below w2.heap.size w2 wr)) (fun i _=>L.length-(intOf i).toNat)
  case atStart=>exact ⟨0,by omega,rfl,HBD,hd_ ((Below.refl _ _).alloc (Nat.le_refl _) _)⟩
  case round =>
   clear HBD
   obtain ⟨k,hk,rfl,HBD,HBW⟩:=hrel
   by_cases hlt:k<L.length
   ·obtain ⟨b,off,u,rfl,hb,hu,hc⟩:=HT2.out.1.one (k:=k) hlt
    have hlk:(L.map Value.string)[k]?=some (.string L[k]):=by rw [List.getElem?_map,List.getElem?_eq_getElem hlt];rfl
    rw [hlk] at hu
    cases hu
    have hc2:wr.cell? ⟨b,off+k,none⟩=some (.string L[k]):=(HBW.out.cell (p:=⟨b,off+k,none⟩) hb).trans hc
    have hsz:=HLS.out _ (List.getElem_mem hlt)
    have HST:=hd_ (HSTEP.out k hlt)
    have hks:=HSZ.out k
    have hz3:=HBW.out.size
    generalize L[k]=S at *
    have hcat0:∀ w',(Op.stringOp .add ⟨#[35,32]⟩ S).run Tryz.prog w'=.ok (.string (⟨#[35,32]⟩++S)) w':=fun w'=>run_string_add_sum w' _ S (by show 2+S.size<=_;omega)
    have hcat1:∀ w',(Op.stringOp .add (⟨#[35,32]⟩++S) ⟨#[10]⟩).run Tryz.prog w'=.ok (.string (⟨#[35,32]⟩++S++⟨#[10]⟩)) w':=fun w'=>run_string_add_sum w' _ _ (by rw [ByteArray.size_append];show 2+S.size+1<=_;omega)
    have hzc:(⟨#[35,32]⟩++S++⟨#[10]⟩:ByteArray).size=2+S.size+1:=by rw [ByteArray.size_append,ByteArray.size_append];rfl
    generalize noteB (L.take k)=Q at *
    generalize hCAT:(⟨#[35,32]⟩++S++⟨#[10]⟩:ByteArray)=C at *
    clear hc hlk hCAT
    go_wp2_with (go_at_call 35;refine (bld_write _ _ Q C _ HBD.out (by omega)).mono ?_;rintro e w4 ⟨rfl,hb5,hB5⟩;have HB5:=hd_ hb5;have HB6:=hd_ (HBW.out.trans hB5);clear hb5 hB5)
    go_roundw
    case measure=>simp [intOf];omega
    case rel=>exact ⟨k+1,by omega,by go_num,hd_ (by rw [HST.out];exact HB5.out),HB6⟩
   ·have HBZ:Hid (Bld w2.heap.size w2.heap.size Z wr):=hd_ (by rw [← HE.out k (by omega)];exact HBD.out)
    clear HBD
    go_wp2_with (go_at_call 37;refine (bld_string _ _ _ _ HBZ.out).mono ?_;rintro e w5 ⟨rfl,hB5⟩;have HB7:=hd_ (HB.out.trans ((HBW.out.trans hB5).mono hz2));clear hB5)
    go_ret2
    exact ⟨rfl,HB7.out⟩
end Go.Proofs.YtddfdmopaeghnadGreatDoor
namespace Go.Proofs.YtddfdmopaeghnadGreatDoor
def LineOk (s:ByteArray):Prop:=(∀ c ∈ s.data.toList,c≠10)/\∃ c,s.data.toList.getLast?=some c/\c≠32
theorem noteB_toList (s:ByteArray) (r:List ByteArray):(noteB (s::r)).data.toList=35::32::(s.data.toList++10::(noteB r).data.toList):=by
 simp only [noteB,ByteArray.data_append,Array.toList_append]
 show [35,32]++s.data.toList++[10]++_=_
 simp
theorem rn_note:∀ {l:List ByteArray},(∀ s ∈ l,LineOk s)->rn false (noteB l).data.toList=some false
 | [],_=>rfl
 | s::r,h=>by
  obtain ⟨h1,c,h2,h3⟩:=h s (by simp)
  rw [noteB_toList,rn,if_neg (by decide),rn,if_neg (by decide),rn_app,rn_word _ _ h1,h2]
  have e:(c==32)=false:=by simpa using h3
  simp only [e]
  rw [rn,if_pos rfl,if_neg (by decide)]
  exact rn_note (fun s hs=>h s (by simp [hs]))
theorem joinE_last:∀ {ws:List (List UInt8)},ws≠[]->(∀ w ∈ ws,w≠[]/\∀ c ∈ w,c≠10/\c≠32)->(∀ c ∈ Lib.join ws [32],c≠10)/\∃ c,(Lib.join ws [32]).getLast?=some c/\c≠32
 | [],h,_=>absurd rfl h
 | [w],_,h=>by
  obtain ⟨h1,h2⟩:=h w (by simp)
  have e:Lib.join [w] [32]=w:=by simp [Lib.join_cons,Lib.joinTail]
  rw [e]
  exact ⟨fun c hc=>(h2 c hc).1,_,List.getLast?_eq_some_getLast h1,(h2 _ (List.getLast_mem h1)).2⟩
 | w::v::r,_,h=>by
  obtain ⟨h1,h2⟩:=h w (by simp)
  obtain ⟨g1,c,g2,g3⟩:=joinE_last (ws:=v::r) (by simp) (fun x hx=>h x (by simp at hx ⊢;exact .inr hx))
  have e:Lib.join (w::v::r) [32]=w++32::Lib.join (v::r) [32]:=by simp [Lib.join_cons,Lib.joinTail]
  rw [e]
  have hne:Lib.join (v::r) [32]≠[]:=by intro e2;rw [e2] at g2;cases g2
  refine ⟨fun d hd=>?_,c, ?_,g3⟩
  ·rcases List.mem_append.1 hd with hd|hd
   ·exact (h2 d hd).1
   ·rcases List.mem_cons.1 hd with rfl|hd
    ·decide
    ·exact g1 d hd
  ·rw [last_app (by simp),List.getLast?_cons,g2];rfl
theorem wordE_ok {w:ByteArray} (h:wordF w=true):w.data.toList≠[]/\∀ c ∈ w.data.toList,c≠10/\c≠32:=by
 obtain ⟨h1,h2,h3⟩:=wordF_facts h
 refine ⟨h1,fun c hc=>?_⟩
 have:=h3 c hc
 constructor <;> (rintro rfl;simp at this)
theorem fillJ_ok {l:List ByteArray} (h0:l≠[]) (h:∀ w ∈ l,wordF w=true):LineOk (fillJ l):=by
 have h1:=joinE_last (ws:=l.map (·.data.toList)) (by simpa using h0) (fun w hw=>by
  obtain ⟨v,hv,rfl⟩:=List.mem_map.1 hw
  exact wordE_ok (h v hv))
 simpa [LineOk,fillJ] using h1
theorem Few.lines_ok {width:Int} {l:List ByteArray} (h:Few width l) (hw:∀ w ∈ l,wordF w=true):∀ (f i:Nat),∀ s ∈ linesG width l f i,LineOk s:=by
 intro f
 induction f with
 | zero=>intro i s hs;cases hs
 | succ f ih =>
  intro i s hs
  rw [linesG] at hs
  split at hs
  ·cases hs
  ·rename_i hi
   obtain ⟨_,_,h1,h2,_⟩:=h.at_ (i:=i) (by omega)
   rcases List.mem_cons.1 hs with rfl|hs
   ·refine fillJ_ok ?_ (fun w hm=>hw w (List.mem_of_mem_drop (List.mem_of_mem_take hm)))
    intro e
    have:=congrArg List.length e
    rw [List.length_take,List.length_drop] at this
    simp at this
    omega
   ·exact ih _ s hs
theorem Few.one_line {width:Int} {l:List ByteArray} (h:Few width l) (h0:0<l.length) (hf:longW l<=width):fillW width l=[fillJ l]:=by
 obtain ⟨e1,e2,h1,h2,h3,h4⟩:=h.at_ h0
 have hz:costAt width l 0 (0+l.length)=0:=by
  rw [costAt,Nat.zero_add,Nat.sub_zero,List.drop_zero,List.take_length,least_end,badW,if_neg (by omega),if_pos (by simp)];rfl
 have hl:=(h.least (i:=0) (by omega)).1
 have hle:leastAt width l 0<=0:=by
  obtain ⟨_,hs⟩:=h.scan (i:=0) (fun k q1 q2=>(h.cost q1 q2).2.2.1) (l.length-0) (by omega)
  obtain ⟨_,_,_,_,g5,_⟩:=hs (by omega)
  have:=g5 l.length (by omega) (by omega)
  rw [hz] at this
  rw [e1];exact this
 have hm:manyAt width l 0=l.length:=by
  by_cases hc:manyAt width l 0=l.length
  ·exact hc
  ·exact absurd (hz.trans (by omega)) (h4 l.length (by omega) (by omega))
 rw [fillW,h.lines_step h0,hm,List.drop_zero,List.take_length,lines_end (by omega)]
theorem noteB_end:∀ {l:List ByteArray},l≠[]->(noteB l).data.toList.getLast?=some 10/\2<=(noteB l).data.toList.length
 | [],h=>absurd rfl h
 | [s],_=>by
  rw [noteB_toList]
  refine ⟨?_,by simp⟩
  show (35::32::(s.data.toList++[10])).getLast?=_
  rw [List.getLast?_cons_cons,List.getLast?_cons,List.getLast?_append];rfl
 | s::t::r,_=>by
  have h:=(noteB_end (l:=t::r) (by simp)).1
  rw [noteB_toList]
  refine ⟨?_,by simp⟩
  rw [show 35::32::(s.data.toList++10::(noteB (t::r)).data.toList)=(35::32::(s.data.toList++[10]))++(noteB (t::r)).data.toList by simp,List.getLast?_append,h];rfl
theorem bytes_eq {a b:ByteArray} (h:a.data.toList=b.data.toList):a=b:=ByteArray.ext (Array.toList_inj.1 h)
theorem noteT_facts {x:ByteArray} (h1:treeOne 9 x 0=0) {W:Int} (hw:wideF W=true) :
  rn false (noteT x W).data.toList=some false/\2<=(noteT x W).data.toList.length/\(noteT x W).data.toList.getLast?=some 10/\(((lineL [⟨9,x,0⟩]).size:Int)<=W->noteT x W=lineL [⟨9,x,0⟩]++⟨#[10]⟩):=by
 have hL:lineL [⟨9,x,0⟩]=if x.data.toList=[] then ⟨#[35]⟩ else ⟨#[35,32]⟩++x:=rfl
 by_cases h0:noteL x=[]
 ·have e:noteT x W=⟨#[35,10]⟩:=by rw [noteT,if_pos h0]
  have hx:x.data.toList=[]:=by
   have:=noteL_data (t:=x)
   rw [h0] at this
   split at this
   ·assumption
   ·obtain ⟨a,b,e2⟩:=spl_ne x.data.toList
    rw [e2] at this
    cases this
  rw [e]
  refine ⟨rfl,by decide,rfl,fun _=>?_⟩
  rw [hL,if_pos hx];rfl
 ·have e:noteT x W=noteB (fillW (W-2) (noteL x)):=by rw [noteT,if_neg h0]
  obtain ⟨hfew,_⟩:=note_few h1 hw
  have hwf:wordsF (noteL x)=0:=by
   unfold treeOne at h1
   split at h1
   ·cases h1
   ·split at h1
    ·cases h1
    ·simpa using h1
  have hws:=(wordsF_facts hwf).2
  have hpos:0<(noteL x).length:=List.length_pos_iff.2 h0
  have hne:fillW (W-2) (noteL x)≠[]:=by rw [fillW,hfew.lines_step hpos];simp
  have hx:x.data.toList≠[]:=by
   intro hx
   rw [noteL,if_pos (by rw [ByteArray.toList_eq];exact hx)] at h0
   exact h0 rfl
  have hj:fillJ (noteL x)=x:=joinW_noteL x
  rw [e]
  refine ⟨rn_note (fun s hs=>hfew.lines_ok hws _ _ s hs),(noteB_end hne).2,(noteB_end hne).1,fun hfit=>?_⟩
  rw [hL,if_neg hx] at hfit ⊢
  have hs:=fillJ_size _ hpos
  rw [hj] at hs
  have hz:(⟨#[35,32]⟩++x:ByteArray).size=2+x.size:=by rw [ByteArray.size_append];rfl
  rw [hfew.one_line hpos (by omega),hj]
  apply bytes_eq
  rw [noteB_toList]
  simp only [ByteArray.data_append,Array.toList_append]
  show 35::32::(x.data.toList++[10])=[35,32]++x.data.toList++[10]
  simp
end Go.Proofs.YtddfdmopaeghnadGreatDoor
namespace Go.Proofs.YtddfdmopaeghnadGreatDoor
open Go.RowKit
def noteTx:List Nd->ByteArray
 | d::_=>d.text
 | []=>.empty
def oneQ (l:List Nd) (W:Int):Int:=if wideF W=false then 1 else if treeF l≠0 then treeF l else if opAt l 0=9 then 0 else if 400<(docL l).length then 3 else 0
def oneX (l:List Nd) (W:Int):ByteArray:=if opAt l 0=9 then noteT (noteTx l) W else bT W.toNat (docAt (docL l) 0)++⟨#[10]⟩
theorem pone_bad (l:List Nd) (W:Int) (A:Option Addr) (c:Nat) (w:World) (hl:Nds w w.heap.size A l) (hsh:Short l) (hm:MaxL w) (hp:PowT w) (h:oneQ l W≠0) :
  Calls Tryz.prog 22 #[.slice A l.length c,.int .i64 W] w (Ret w (.tuple #[.string .empty,.iface 24 (.int .i64 (oneQ l W))])):=by
 have HW:=hd_ (fun w'=>wide_any W w')
 by_cases hw:wideF W=false
 ·have hq:oneQ l W=1:=by rw [oneQ,if_pos hw]
  rw [hq]
  rw [hw] at HW
  clear hl hsh hm hp h hq hw
  go_enter Tryz.func22,Tryz.ntmps22
  go_wp2_with (go_at_call 23;refine (HW.out _).mono ?_;rintro e w1 ⟨rfl,rfl⟩)
  go_ret2
  exact ⟨rfl,Below.refl _ _⟩
 ·have hw1:wideF W=true:=by simpa using hw
  rw [hw1] at HW
  by_cases ht:treeF l=0
  ·by_cases h9:opAt l 0=9
   ·exact absurd (by rw [oneQ,if_neg hw,if_neg (by simpa using ht),if_pos h9]) h
   ·by_cases h4:400<(docL l).length
    ·have hq:oneQ l W=3:=by rw [oneQ,if_neg hw,if_neg (by simpa using ht),if_neg h9,if_pos h4]
     rw [hq]
     have HK:=hd_ (lcheck_ok l A c w hl hsh hm ht)
     have HD:=hd_ (fun (w':World) (hb:Below w.heap.size w w')=>(ldoc_good l A c w' (hl.past hb) hsh (hm.past hb) (hp.past hb) ht h9).2 h4)
     have h0:=(Tr.of_check ht).pos0
     obtain ⟨b,off,op,t,n,rfl,hb,ho,hnd,hts,d1,d2⟩:=hl.head0 h0
     have ho9:(op==9)=false:=by rw [← ho];simpa using h9
     have hlen:=hl.2.1
     unfold maxLen at hlen
     clear hl hsh hm hp h hq hw ho hnd h9 h4
     go_enter Tryz.func22,Tryz.ntmps22
     go_wp2_with (first
      | (go_at_call 23;refine (HW.out _).mono ?_;rintro e w1 ⟨rfl,rfl⟩)
      | (go_at_call 45;refine HK.out.mono ?_;rintro e w2 ⟨rfl,hB2⟩;have e1:=(hB2.cell (p:=⟨b,off,none⟩) hb).trans d1;have HB:=hd_ hB2;clear hB2)
      | (go_at_call 47;refine (HD.out _ HB.out).mono ?_;rintro e w3 ⟨rfl,hB3⟩;have HB3:=hd_ (HB.out.trans (hB3.mono HB.out.size));clear hB3))
     go_ret2
     exact ⟨rfl,HB3.out⟩
    ·exact absurd (by rw [oneQ,if_neg hw,if_neg (by simpa using ht),if_neg h9,if_neg h4]) h
  ·have hq:oneQ l W=treeF l:=by rw [oneQ,if_neg hw,if_pos ht]
   rw [hq]
   have HK:=hd_ (lcheck_bad l A c w hl hsh hm ht)
   clear hl hsh hm hp h hq hw
   go_enter Tryz.func22,Tryz.ntmps22
   go_wp2_with (first
    | (go_at_call 23;refine (HW.out _).mono ?_;rintro e w1 ⟨rfl,rfl⟩)
    | (go_at_call 45;refine HK.out.mono ?_;rintro e w2 ⟨rfl,hB2⟩))
   go_ret2
   exact ⟨rfl,hB2⟩
theorem oneQ_zero {l:List Nd} {W:Int} (h:oneQ l W=0):wideF W=true/\treeF l=0/\(opAt l 0≠9->¬ 400<(docL l).length):=by
 unfold oneQ at h
 split at h
 ·cases h
 ·rename_i hw
  split at h
  ·rename_i ht;exact absurd h ht
  ·rename_i ht
   split at h
   ·rename_i h9;exact ⟨by simpa using hw,by simpa using ht,fun h=>absurd h9 h⟩
   ·split at h
    ·cases h
    ·rename_i h4;exact ⟨by simpa using hw,by simpa using ht,fun _=>h4⟩
theorem pone_ok (hof:OfFromSaid) (l:List Nd) (W:Int) (A:Option Addr) (c:Nat) (w:World) (hl:Nds w w.heap.size A l) (hsh:Short l) (hm:MaxL w) (hp:PowT w) (hd:opAt l 0≠9->∃ x,Doc (docL l) x) (h:oneQ l W=0) :
  Calls Tryz.prog 22 #[.slice A l.length c,.int .i64 W] w (Ret w (.tuple #[.string (oneX l W),.nilIface])):=by
 obtain ⟨hw,ht,h4⟩:=oneQ_zero h
 have HW:=hd_ (fun w'=>wide_any W w')
 rw [hw] at HW
 have HK:=hd_ (lcheck_ok l A c w hl hsh hm ht)
 by_cases h9:opAt l 0=9
 ·obtain ⟨x,rfl,h1⟩:=tree_note ht h9
  have hx:oneX [⟨9,x,0⟩] W=noteT x W:=by rw [oneX,if_pos h9];rfl
  rw [hx]
  have HN:=hd_ (fun (w':World) (hb:Below w.heap.size w w')=>pnoteT_any (n:=1) rfl ht hw A c w' (hl.past hb) hsh (hm.past hb))
  obtain ⟨b,off,op,t,n,rfl,hb,ho,hnd,hts,d1,d2⟩:=hl.head0 (by simp)
  have ho9:op=9:=by rw [← ho];exact h9
  subst ho9
  generalize noteT x W=T at *
  clear hl hsh hm hp h hd ho hnd h9 h4 hx h1 ht d2
  go_enter Tryz.func22,Tryz.ntmps22
  go_wp2_with (first
   | (go_at_call 23;refine (HW.out _).mono ?_;rintro e w1 ⟨rfl,rfl⟩)
   | (go_at_call 45;refine HK.out.mono ?_;rintro e w2 ⟨rfl,hB2⟩;have e1:=(hB2.cell (p:=⟨b,off,none⟩) hb).trans d1;have HB:=hd_ hB2;clear hB2)
   | (go_at_call 46;refine (HN.out _ HB.out).mono ?_;rintro e w3 ⟨rfl,hB3⟩;have HB3:=hd_ (HB.out.trans (hB3.mono HB.out.size));clear hB3))
  go_ret2
  exact ⟨rfl,HB3.out⟩
 ·obtain ⟨x,hx⟩:=hd h9
  obtain ⟨w10,w100⟩:=wideF_iff.1 hw
  have hs:=(hx.best_shown W.toNat).size
  have hr:oneX l W=bT W.toNat x++⟨#[10]⟩:=by rw [oneX,if_neg h9,hx.root]
  rw [hr]
  have HD:=hd_ (fun (w':World) (hb:Below w.heap.size w w')=>(ldoc_good l A c w' (hl.past hb) hsh (hm.past hb) (hp.past hb) ht h9).1 (h4 h9))
  have HB0:=hd_ (fun A c w' hw'=>best_good hof hx A _ c rfl W.toNat (width:=W) (by omega) (by omega) w' hw')
  have h0:=(Tr.of_check ht).pos0
  obtain ⟨b,off,op,t,n,rfl,hb,ho,hnd,hts,d1,d2⟩:=hl.head0 h0
  have ho9:(op==9)=false:=by rw [← ho];simpa using h9
  have hlen:=hl.2.1
  unfold maxLen at hlen
  unfold BestTo BestIs_ at HB0
  generalize bT W.toNat x=T at *
  have hcat:∀ w',(Op.stringOp .add T ⟨#[10]⟩).run Tryz.prog w'=.ok (.string (T++⟨#[10]⟩)) w':=fun w'=>run_string_add_sum w' _ _ (by show T.size+1<=_;omega)
  clear hl hsh hm hp h hd ho hnd h9 h4 hx hr ht d2
  go_enter Tryz.func22,Tryz.ntmps22
  go_wp2_with (first
   | (go_at_call 23;refine (HW.out _).mono ?_;rintro e w1 ⟨rfl,rfl⟩)
   | (go_at_call 45;refine HK.out.mono ?_;rintro e w2 ⟨rfl,hB2⟩;have e1:=(hB2.cell (p:=⟨b,off,none⟩) hb).trans d1;have HB:=hd_ hB2;clear hB2)
   | (go_at_call 47;refine (HD.out _ HB.out).mono ?_;rintro e w3 ⟨A3,c3,rfl,hn,hB3⟩;have HN:=hd_ hn.1;have HB:=hd_ (HB.out.trans (hB3.mono HB.out.size));clear hB3 hn)
   | (go_at_call 48;refine (HB0.out _ _ _ HN.out).mono ?_;rintro e w4 ⟨A4,c4,rfl,-,-,hB4⟩;have HB:=hd_ (HB.out.trans (hB4.mono HB.out.size));clear hB4))
  go_ret2
  exact ⟨rfl,HB.out.alloc HB.out.size _⟩
end Go.Proofs.YtddfdmopaeghnadGreatDoor
namespace Go.Proofs.YtddfdmopaeghnadGreatDoor
theorem textL_neF {l:List Nd} (h:treeF l=0) (_h9:opAt l 0≠9):textL l≠.empty:=by
 have hT:=Tr.of_check h
 have h0:=hT.pos0
 have hoe:opAt l 0=(l[0]'h0).op:=by rw [opAt,getD_at h0]
 have ht:=hT.tops h0
 rw [decide_eq_true rfl] at ht
 have h7:7<=(l[0]'h0).op:=of_decide_eq_true ht
 have hne:(textL l).size≠0:=by
  rw [textL]
  obtain ⟨m,hm⟩:∃ m,l.length=m+1:=⟨l.length-1,by omega⟩
  rw [hm,textX,getD_at h0]
  rw [if_neg (by omega),if_neg (by omega),if_neg (by omega),if_neg (by omega),if_neg (by omega),if_neg (by omega)]
  split
  ·simp only [ByteArray.size_append]
   show _+1≠0
   omega
  ·simp only [ByteArray.size_append]
   show _+1≠0
   omega
 intro e
 rw [e] at hne
 exact hne rfl
structure OneIs (l:List Nd) (W:Int) (S:ByteArray):Prop where
 two:2<=S.size
 small:S.size<=1500000
 last:S.data.toList.getLast?=some 10
 rn:rn false S.data.toList=some false
 fits:(lineL l).size<=W->S=lineL l++⟨#[10]⟩
theorem noteT_size {x:ByteArray} (h1:treeOne 9 x 0=0) {W:Int} (hw:wideF W=true):(noteT x W).size<=80000:=by
 by_cases h0:noteL x=[]
 ·rw [noteT,if_pos h0];decide
 ·rw [noteT,if_neg h0]
  obtain ⟨hfew,_⟩:=note_few h1 hw
  obtain ⟨f1,f2⟩:=hfew.fill_small
  have:=noteB_size f2
  omega
theorem oneX_is {l:List Nd} {W:Int} (h:oneQ l W=0) (hd:opAt l 0≠9->∃ x,Doc (docL l) x):OneIs l W (oneX l W):=by
 obtain ⟨hw,ht,h4⟩:=oneQ_zero h
 by_cases h9:opAt l 0=9
 ·obtain ⟨x,rfl,h1⟩:=tree_note ht h9
  have hx:oneX [⟨9,x,0⟩] W=noteT x W:=by rw [oneX,if_pos h9];rfl
  rw [hx]
  obtain ⟨a1,a2,a3,a4⟩:=noteT_facts h1 hw
  have hz:=noteT_size h1 hw
  exact ⟨by simpa using a2,by omega,a3,a1,a4⟩
 ·obtain ⟨x,hx⟩:=hd h9
  have hr:oneX l W=bT W.toNat x++⟨#[10]⟩:=by rw [oneX,if_neg h9,hx.root]
  obtain ⟨w10,w100⟩:=wideF_iff.1 hw
  obtain ⟨a1,a2,a3⟩:=fit_all ht h9 hx W.toNat
  have hL:lineL l=textL l:=by rw [lineL,if_neg h9];rfl
  have hs:=(hx.best_shown W.toNat).size
  have hne:(bT W.toNat x).size≠0:=by
   intro e
   have he:(bT W.toNat x).data.toList=[]:=by
    apply List.eq_nil_of_length_eq_zero
    simpa using e
   obtain ⟨z,z1,z2,z3,z4,z5⟩:=docL_flat ht h9
   obtain rfl:=hx.same z1 z2
   have:=lay_line (by rw [z2];exact z5) z3 (hx.best_shown W.toNat).lay z1 (by rw [he];rfl)
   exact textL_neF ht h9 (by rw [← this];exact bytes_eq (by rw [he];rfl))
  rw [hr]
  have hz:(bT W.toNat x++⟨#[10]⟩:ByteArray).size=(bT W.toNat x).size+1:=by rw [ByteArray.size_append];rfl
  refine ⟨by omega,by omega, ?_, ?_,fun hf=>?_⟩
  ·rw [ByteArray.data_append,Array.toList_append,List.getLast?_append];rfl
  ·rw [ByteArray.data_append,Array.toList_append,rn_app,a1];rfl
  ·rw [a2 (by rw [hL] at hf;omega),hL]
theorem docL_doc {l:List Nd} (h:treeF l=0) (h9:opAt l 0≠9) (h4:(docL l).length<=400):∃ x,Doc (docL l) x:=by
 obtain ⟨x,hx,_⟩:=(docL_flat h h9).doc h4
 exact ⟨x,hx⟩
end Go.Proofs.YtddfdmopaeghnadGreatDoor
