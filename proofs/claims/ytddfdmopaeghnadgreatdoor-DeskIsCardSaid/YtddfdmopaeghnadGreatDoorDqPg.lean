/- Arguments read as before behind a call; slices opened. Conditions: as each theorem states them. -/
import Derived.ProofKit
import Derived.Deep.Slices
import Derived.Deep.DeepHandedRow
import Derived.Test.YtddfdmopaeghnadGreatDoorDqEr
import Derived.LaidHandle
import Derived.Lib.TrailingZeros
import Derived.Test.YtddfdmopaeghnadGreatDoorDqPa
import Derived.Test.YtddfdmopaeghnadGreatDoorDqRm
import Derived.Test.YtddfdmopaeghnadGreatDoorDqBo
import Derived.Test.YtddfdmopaeghnadGreatDoorDqRr
set_option maxRecDepth 100000
set_option maxHeartbeats 16000000
namespace Go.Proofs.YtddfdmopaeghnadGreatDoor
variable {P Q:Prop}
section
open Go.ChangeShapes Go.WideShapes Go.ChangeAt Go.RowKit Go.Deep
theorem own:ownKnob Tryz.prog.godebug=none:=by kernel_rfl
theorem aoE_:laidOutB Tryz.prog=true:=by kernel_rfl
section
variable {H:Type} {enc:TypeId × Value->H} {P:Program}
theorem pD_ (hl:laidOutB P=true) {W W':World} (hb:Below W.heap.size W W') {sp:Nat->Bool} :
  ∀ {ts:List TypeId} {vs:List Value} {ds:List (DataW H)} {p:List MemPlace},(∀ t ∈ ts,P.readableRec t=true/\t<P.types.size) ->
   DataW.TrodAll enc P W 0 (fun _=>true) true ts vs ds p->(∀ x ∈ p,x.block<W.heap.size)->(∀ x ∈ p,sp x.block=true)->DataW.TrodAll enc P W' 0 sp true ts vs ds p
 | [],_,_,_,_,h,_,_=>by
  obtain ⟨rfl,rfl,rfl⟩:=trodAll_nil h;exact h
 | t::ts,_,_,_,hr,h,hlt,hsp=>by
  obtain ⟨v,vs1,d,ds1,a,b,rfl,rfl,rfl,h1,h2⟩:=trodAll_cons h;obtain ⟨r1,r2⟩:=hr t si_;exact ⟨a,b,WideElems.Trod_stays hl r1 r2 h1 (fun x hx=>hb.same (hlt x (List.mem_append_left _ hx))) (fun x hx=>hsp x (List.mem_append_left _ hx)),
   pD_ hl hb (fun t ht=>hr t (by simp [ht])) h2 (fun x hx=>hlt x (List.mem_append_right _ hx)) (fun x hx=>hsp x (List.mem_append_right _ hx)),rfl⟩
theorem ajG_ {f:Func} {s:ChangeSpec} {W W':World} {args:Array Value} {ds gs:List (DataW H)} {before:List MemPlace} {t:TypeId}
  (hW:DataW.Whole enc P f.params.toList s.vars false W args.toList ds gs before) (hv:s.vars=[])
  (hfn:s.fn H (ds++[])={ results:=[.lit (.bool true)],args:=ds }) (hres:f.resultTypes=#[t]) (ht:P.underlying t=some .bool)
  (hl:laidOutB P=true) (hr:(f.params.toList.all fun t=>P.readableRec t&&decide (t<P.types.size))=true) (hb:Below W.heap.size W W') :
  s.post enc P f false true false false W args (.bool true) W':=by
 have hW0:=hW;have hlt:∀ x ∈ before,x.block<W.heap.size:=fun x hx=>hW.lt x hx
 obtain ⟨p,q,hA,hV,rfl,hfz,hnd⟩:=hW;rw [hv] at hV;obtain ⟨rfl,rfl⟩:=trodVars_none hV;have hr':∀ t ∈ f.params.toList,P.readableRec t=true/\t<P.types.size:=fun t ht=>by
  have:=List.all_eq_true.1 hr t ht
  simpa using this
 refine ⟨ds,[],p++[],[],p,[],hW0, ?_, ?_, ?_,hb.frame _,fun h=>by cases h⟩
 ·rw [hfn,hres];exact trodAll_mk1 (shut_bool ht true)
 ·rw [hfn];refine pD_ hl hb hr' hA (fun x hx=>hlt x (by simpa using hx)) (fun x hx=>by simpa using hlt x (by simpa using hx))
 ·rw [hfn,hv];exact rfl
theorem ap0_ {W:World} {t e:TypeId} {sz base:Nat} {v:Value} {d:DataW H} {p:List MemPlace} (ht:P.underlying t=some (.slice e)) (hC:P.cellsOf e=sz) (hz:0<sz)
  (hv:Value.okWide P W .any base t v) (h:DataW.Trod enc P W 0 (fun _=>true) true t v d p) (hlt:∀ x ∈ p,x.block<W.heap.size) :
  ∃ (A:Option Addr) (n c:Nat) (css:List (List Value)),v=.slice A n c/\css.length=n/\Sl W W.heap.size sz A n css.flatten/\n<=c/\n<=maxLen /\
   (d=.nil∨∃ elems spare:List (DataW H),d=.slice elems spare/\elems.length=n) /\
   ∀ cs ∈ css,cs.length=sz/\∃ (k:Nat) (y:DataW H × List MemPlace),DataW.trod enc P W 0 (fun _=>true) true k e cs=some y/\(∀ x ∈ y.2,x ∈ p)/\∃ elems spare:List (DataW H),d=.slice elems spare/\y.1 ∈ elems:=by
 obtain ⟨A,n,c,rfl⟩:=okWide_slice ht hv;obtain ⟨fuel,hf⟩:=h
 rcases open_slice ht hf with ⟨hcs,hx⟩|⟨a,len,cap,m,k,D,Pl,hcs,_,hl,hm,hmm,hx,hi⟩
 ·simp [Value.cells] at hcs;obtain ⟨rfl,rfl,rfl⟩:=hcs;exact ⟨none,0,0,[],rfl,rfl,.nil_,Nat.le_refl _,by simp [maxLen],.inl (by cases hx;rfl),by simp⟩
 ·simp [Value.cells] at hcs;obtain ⟨rfl,rfl,rfl⟩:=hcs;simp only [if_true] at hmm;subst hmm;rw [hC] at hi hx;obtain ⟨F,hF⟩:=choose_lt (α:=List Value) (p:=fun i cs=>W.cells? 0 (a.add (i*sz)) sz=some cs/\DataW.trod enc P W 0 (fun _=>true) true k e cs=some (D i,Pl i)) (fun i hi'=>hi i hi');have hlenF:∀ i,i<m->(F i).length=sz:=fun i hi'=>(World.cells?_some (hF i hi').1).2.1
  have hflat:∀ (q:Nat),q<=m->((List.range q).map F).flatten.length=q*sz/\∀ i j,i<q->j<sz->((List.range q).map F).flatten[i*sz+j]?=(F i)[j]?:=by
   intro q
   induction q with
   | zero=>intro _;exact ⟨by simp,fun i j hi'=>absurd hi' om_⟩
   | succ q ih =>
    intro hq;obtain ⟨h1,h2⟩:=ih om_;have e1:((List.range (q+1)).map F).flatten=((List.range q).map F).flatten++F q:=by simp [List.range_succ]
    rw [e1];refine ⟨by rw [List.length_append,h1,hlenF q om_,Nat.add_mul,Nat.one_mul],fun i j hi' hj=>?_⟩
    rcases Nat.lt_or_ge i q with hlt'|hge
    ·have:i*sz+j<q*sz:=by
      have:(i+1)*sz<=q*sz:=Nat.mul_le_mul_right _ hlt';rw [Nat.add_mul] at this;omega
     rw [List.getElem?_append_left om_];exact h2 i j hlt' hj
    ·obtain rfl:i=q:=by omega
     rw [List.getElem?_append_right om_,h1]
     congr 1;omega
  have hp:p=MemPlace.row a (m*sz)++(List.range m).flatMap Pl:=by cases hx;rfl
  refine ⟨some a,n,m,(List.range n).map F,rfl,by simp,⟨(hflat n hl).1,fun hn=>?_⟩,hl,Nat.le_trans hl hm,.inr ⟨_,_,(by cases hx;rfl),by simp⟩, ?_⟩
  ·have hmpos:0<m*sz:=Nat.mul_pos om_ hz;have hblk:a.block<W.heap.size:=hlt (.cell a.block (a.off+0)) (by rw [hp];exact List.mem_append_left _ (MemPlace.mem_row.2 ⟨0,hmpos,rfl⟩));have hc0:∀ i j,i<m->j<sz->W.cell? ((a.add (i*sz)).add j)=(F i)[j]?:=fun i j h1 h2=>(World.cells?_some (hF i h1).1).2.2 j h2
   have hspot:a.spot=none:=by
    have h0:=hc0 0 0 om_ hz;rw [Nat.zero_mul,List.getElem?_eq_getElem (by rw [hlenF 0 om_];exact hz)] at h0;simp only [Addr.add,if_true,World.cell?] at h0
    split at h0
    ·split at h0
     ·cases h0
     ·rename_i hs
      cases hsp:a.spot with
      | none=>rfl
      | some _=>simp [hsp] at hs
    ·cases h0
   have ha:a=⟨a.block,a.off,none⟩:=by
    cases a
    simp only at hspot;subst hspot;rfl
   refine ⟨a.block,a.off,congrArg some ha,hblk,fun j u hu=>?_⟩;have hjl:j<n*sz:=by
    rw [← (hflat n hl).1];exact (List.getElem?_eq_some_iff.1 hu).1
   have hdiv:j / sz<n:=(Nat.div_lt_iff_lt_mul hz).2 hjl;have hmod:=Nat.mod_lt j hz;have hj:j=j / sz*sz+j % sz:=by rw [Nat.mul_comm];exact (Nat.div_add_mod j sz).symm
   have h1:=(hflat n hl).2 (j / sz) (j % sz) hdiv hmod;rw [← hj,hu] at h1;have h2:=hc0 (j / sz) (j % sz) om_ hmod;rw [Go.Deep.add_add,← hj,← h1] at h2;rw [← h2];unfold Addr.add
   split
   ·rename_i h0;rw [h0,Nat.add_zero,← ha]
   ·rfl
  ·intro cs hcs;obtain ⟨i,hi',rfl⟩:=List.mem_map.1 hcs;have hi2:i<m:=by have:=List.mem_range.1 hi';omega
   refine ⟨hlenF i hi2,k,_,(hF i hi2).2,fun x hx'=>?_, ?_⟩
   ·rw [hp];exact List.mem_append_right _ (List.mem_flatMap.2 ⟨i,List.mem_range.2 hi2,hx'⟩)
   ·refine ⟨_,_,congrArg Prod.fst hx, ?_⟩;exact List.mem_map_of_mem (List.mem_range.2 (List.mem_range.1 hi'))
theorem zE_ {α:Type} {css:List (List Value)} {f:α->List Value} {l:List α} (h:css=l.map f):css.flatten=l.flatMap f:=by
 rw [h,List.flatMap_def]
theorem aoI_ {α:Type} {p:List Value->Prop} {q:α->Prop} {f:α->List Value} {css:List (List Value)} (h:∀ cs ∈ css,p cs) (hp:∀ cs,p cs->∃ a,cs=f a/\q a):∃ l:List α,css=l.map f/\∀ a ∈ l,q a:=by
 induction css with
 | nil=>exact ⟨[],rfl,by simp⟩
 | cons cs r ih =>
  obtain ⟨a,ha,hq⟩:=hp cs (h cs si_);obtain ⟨l,hl,hql⟩:=ih (fun c hc=>h c (by simp [hc]));refine ⟨a::l,by rw [hl,ha];rfl,fun x hx=>?_⟩
  rcases List.mem_cons.1 hx with rfl|hx
  ·exact hq
  ·exact hql x hx
end
end
section
open Go.ChangeShapes Go.WideShapes Go.ChangeAt Go.RowKit Go.Deep
theorem aoT_ {W:World} (h:W.ShapedOpen Tryz.prog):cQ_ W:=by
 obtain ⟨m,hm⟩:=cell_of_shapedOpen_int (P:=Tryz.prog) (g:=1) (t:=3) (zero:=#[.int .i64 0]) (k:=.i64) h (of_decide_eq_true kr_) kr_ rfl kr_ kr_ Tryz.underlying3;refine ⟨?_,m,hm⟩
 rcases Nat.lt_or_ge 1 W.heap.size with h1|h1
 ·exact h1
 ·unfold World.cell? at hm;simp [Array.getElem?_eq_none h1] at hm
end
section
open Go.ChangeShapes Go.WideShapes Go.RowKit
theorem asQ_ : Tryz.prog.globalNamed "errors.errorType" = some 0 := by kernel_rfl
theorem at7_ : (Tryz.prog.cutTypes.find? (·.1 == "internal/reflectlite.rtype")).map (·.2) = some 249 := by kernel_rfl
theorem ajT_:((List.range 359).filter fun t=>Tryz.prog.rowNamed t [101,114,114,111,114])=[27]:=by kernel_rfl
theorem afV_:Tryz.prog.types.size=359:=by kernel_rfl
theorem x7_ {W : World} (h : laidMetH Tryz.prog [("errors.errorType", Rows.laid_errors_errorType)] W) : gT_ W := by
 have h' : laidMet Tryz.prog [] W ∧ handlesMet Tryz.prog [("errors.errorType", Rows.laid_errors_errorType)] W := h;obtain ⟨name,u,ty,e1,e2,e3,e4,e5⟩:=h'.2 _ (List.mem_singleton.2 rfl);have en:name=[101,114,114,111,114]:=(Option.some.inj e1).symm;subst en;obtain rfl:=Option.some.inj (at7_.symm.trans e2);have hm:ty ∈ (List.range 359).filter fun t=>Tryz.prog.rowNamed t [101,114,114,111,114]:=List.mem_filter.2 ⟨List.mem_range.2 (by rw [← afV_];exact e3),e4⟩
 rw [ajT_] at hm;obtain rfl:=List.mem_singleton.1 hm;have hh:typeHandle Tryz.prog 27=.pointer (some ⟨9,27,none⟩):=by kernel_rfl
 rw [hh] at e5;have:=World.var?_cell asQ_ e5 0
 simpa [gT_] using this
theorem gT_.size {W:World} (h:gT_ W):0+1<=W.heap.size:=by
 rcases Nat.lt_or_ge 0 W.heap.size with h1|h1
 ·exact h1
 ·unfold gT_ World.cell? at h;simp [Array.getElem?_eq_none h1] at h
end
section
open Go.ChangeShapes Go.WideShapes Go.RowKit
theorem zB_ {l : List (String × DataW Unit)} (hf : l.filter (fun x => x.2.handleName?.isSome) = [("errors.errorType", Rows.laid_errors_errorType)]) {W : World} (h : laidMetH Tryz.prog l W) : gT_ W := by
 refine x7_ ?_;unfold laidMetH at h ⊢;rw [hf] at h;have e2 : ([("errors.errorType", Rows.laid_errors_errorType)] : List (String × DataW Unit)).filter (fun x => x.2.handleName?.isSome) = [("errors.errorType", Rows.laid_errors_errorType)] := rfl;rw [e2];exact ⟨laidMet_nil _ _,h.2⟩
theorem zU_ {a b : String × DataW Unit} {l rest : List (String × DataW Unit)} (hf : l.filter (fun x => x.2.handleName?.isSome) = [("errors.errorType", Rows.laid_errors_errorType)])
  (hn : l.filter (fun x => x.2.handleName?.isNone) = a :: b :: ("internal/strconv.uint64pow10", Lib.tabData .u64 Lib.pow10Tab) :: rest) {W : World} (h : laidMetH Tryz.prog l W) : dM_ W := by
 unfold laidMetH at h;rw [hf] at h;have h1:=h.1;rw [hn] at h1;obtain ⟨ps,⟨_,_,_,_,_,q1,_,_,_,_,⟨_,_,_,_,_,q2,_,_,_,_,⟨g',t',cs,fuel,p,q,hg',ht',hvar,hd,_,_⟩,_⟩,_⟩,_⟩:=h1;have hg : Tryz.prog.globalNamed "internal/strconv.uint64pow10" = some 4 := by kernel_rfl
 obtain rfl:=Option.some.inj (hg.symm.trans hg');have hty:(Tryz.prog.globals[4]?).map (·.type)=some 315:=by kernel_rfl
 obtain rfl:=Option.some.inj (hty.symm.trans ht');unfold dM_ Lib.TabIs;rw [hvar,← Lib.cells_of_tab Tryz.underlying315 Tryz.underlying298 kr_ kr_ hd]
end
section
open Go.RowKit
noncomputable def p9_ (os:Os):World :=
 let w0:=World.holding Tryz.prog os ⟨#[],#[],[]⟩
 let n:=w0.heap.size
 { w0 with heap:=(((((((((w0.heap.modify 7 fun
   | .cells _ t frozen=>.cells (Lib.deBruijn32tab.map fun n:Nat=>Value.int .u8 n).toArray t frozen
   | o=>o).modify 8 fun
   | .cells _ t frozen=>.cells (Lib.deBruijn64tab.map fun n:Nat=>Value.int .u8 n).toArray t frozen
   | o=>o).modify 4 fun
   | .cells _ t frozen=>.cells (Lib.pow10Tab.map fun n:Int=>Value.int .u64 n).toArray t frozen
   | o=>o).modify 5 fun
   | .cells _ t frozen=>.cells (Go.Pinned.utf8FirstZ.map fun n:Nat=>Value.int .u8 n).toArray t frozen
   | o=>o).modify 6 fun
   | .cells _ t frozen=>.cells (([128,191,160,191,128,159,144,191,128,143]++List.replicate 22 0).map fun n:Nat=>Value.int .u8 n).toArray t frozen
   | o=>o).modify 0 fun
   | .cells _ t frozen=>.cells #[.iface 249 (.agg #[.pointer (some ⟨9,27,none⟩)])] t frozen
   | o=>o).modify 3 fun
   | .cells _ t frozen=>.cells #[.iface 323 (.pointer (some ⟨n,0,none⟩))] t frozen
   | o=>o).modify 2 fun
   | .cells _ t frozen=>.cells #[.iface 323 (.pointer (some ⟨n+1,0,none⟩))] t frozen
   | o=>o).push (.cells #[.string ⟨#[118,97,108,117,101,32,111,117,116,32,111,102,32,114,97,110,103,101]⟩] 325 (0,0))).push (.cells #[.string ⟨#[105,110,118,97,108,105,100,32,115,121,110,116,97,120]⟩] 325 (0,0)) }
def bH_ (W:Int):List (List Nd)->Int
 | []=>0
 | u::r=>if cB_ u W≠0 then cB_ u W else bH_ W r
def cK_ (W:Int):List (List Nd)->ByteArray
 | []=>.empty
 | u::r=>eJ_ u W++cK_ W r
theorem jY_ (W:Int) {p:List (List Nd)} {k:Nat} {u:List Nd} (hu:p[k]?=some u):cK_ W (p.take (k+1))=cK_ W (p.take k)++eJ_ u W:=by
 have happ:∀ a b:List (List Nd),cK_ W (a++b)=cK_ W a++cK_ W b:=fun a b=>by
  induction a with
  | nil=>simp [cK_]
  | cons x r ih=>simp [cK_,ih,ByteArray.append_assoc]
 rw [List.take_add_one,hu,happ];simp [cK_]
theorem acP_ (W:Int) {p:List (List Nd)} {k:Nat} {u:List Nd} (hu:p[k]?=some u) (h:bH_ W (p.drop k)=bH_ W p):(cB_ u W≠0->bH_ W p=cB_ u W)/\(cB_ u W=0->bH_ W (p.drop (k+1))=bH_ W p):=by
 obtain ⟨hk,rfl⟩:=List.getElem?_eq_some_iff.1 hu;rw [List.drop_eq_getElem_cons hk,bH_] at h
 constructor
 ·intro hq;rw [if_pos hq] at h;exact h.symm
 ·intro hq;rw [if_neg (by simpa using hq)] at h;exact h
def jR_ (u:List Nd):Bool:=decide (a9_ u 0=9)||decide (400<(eP_ u).length)||decide ((a7_ (eP_ u) 0).ways.length<=300)
def pF_ (l:List Nd) (W:Int) (w:World) (e:Ending) (w':World):Prop:=Below w.heap.size w w' /\
 ((jR_ l=true/\e=.returned (.tuple #[.string (if cB_ l W=0 then eJ_ l W else .empty),.int .i64 (cB_ l W),.bool true]))∨(jR_ l=false/\∃ T:ByteArray,e=.returned (.tuple #[.string T,.int .i64 0,.bool false])))
theorem uE_ {W:Int} {l:List ByteArray}:eL_ W l=[]↔l=[]:=by
 cases l with
 | nil=>exact ⟨fun _=>rfl,fun _=>rfl⟩
 | cons a r =>
  constructor
  ·intro h;unfold eL_ gQ_ at h;simp [f4_] at h
  ·intro h;cases h
theorem ad4_ (l:List Nd) (W:Int) (A:Option Addr) (c:Nat) (w:World) (hl:Nds w w.heap.size A l) (hsh:dP_ l) (ht:aM_ l=0) (hw:bQ_ W=true) :
  Calls Tryz.prog 25 #[.slice A l.length c,.int .i64 W] w (pF_ l W w):=by
 obtain ⟨w1,w2⟩:=jP_.1 hw
 by_cases h9:a9_ l 0=9
 ·obtain ⟨x,rfl,h1⟩:=i8_ ht h9;obtain ⟨hfew,-⟩:=nG_ h1 hw;have hq:cB_ [⟨9,x,0⟩] W=0:=by rw [cB_,if_neg (by simp [hw]),if_neg (by simp [ht]),if_pos h9]
  have hx:eJ_ [⟨9,x,0⟩] W=dT_ x W:=by rw [eJ_,if_pos h9];rfl
  have HFW:Hid (jR_ [⟨9,x,0⟩]=true):=hd_ (by simp [jR_,h9]);unfold pF_;rw [hq,if_pos rfl,hx];have hsz:x.size<4294967281:=hsh ⟨9,x,0⟩ si_;have HNW:=hd_ (fun w'=>vY_ x w' hsz);unfold sX_ at HNW;have k1:IntKind.i64.wrap (W-2)=W-2:=IntWalk.i64_in _ om_;have HF:=hd_ (fun A1 c1 w' hcap hl'=>af0_ (aJ_ x) A1 _ c1 rfl hcap (W-2) w' hl' hfew);unfold aa8_ at HF;have hnt:dT_ x W=if eL_ (W-2) (aJ_ x)=[] then ⟨#[35,10]⟩ else c1_ (eL_ (W-2) (aJ_ x)):=by
   unfold dT_
   by_cases h:aJ_ x=[]
   ·rw [if_pos h,if_pos (uE_.2 h)]
   ·rw [if_neg h,if_neg (fun hh=>h (uE_.1 hh))]
  obtain ⟨hl60,hls⟩:=hfew.fill_small;generalize eL_ (W-2) (aJ_ x)=L at *;have HNT:=hd_ hnt;have HSTEP:=hd_ (fun k (hk:k<L.length)=>s6_ hk);have HSZ:Hid (∀ k,(c1_ (L.take k)).size<=80000):=hd_ (fun k=>by
   have h:=nE_ (l:=L.take k) (fun u hu=>hls u (List.mem_of_mem_take hu));have h3:(L.take k).length<=60:=by rw [List.length_take];omega
   omega)
  have HE:Hid (∀ k,L.length<=k->c1_ (L.take k)=c1_ L):=hd_ (fun k hk=>by rw [List.take_of_length_le hk]);have HLS:=hd_ hls;obtain ⟨b,off,op,t,n,rfl,hb,ho,hnd,hts,d1,d2⟩:=hl.head0 si_;obtain ⟨e1,e2,e3⟩:op=9/\t=x/\n=0:=by
   have h:(⟨9,x,0⟩:Nd)=⟨op,t,n⟩:=hnd;injection h with h1 h2 h3;exact ⟨h1.symm,h2.symm,h3.symm⟩
  subst e1 e2 e3;clear hl hsh ho hnd h9 hq hx hfew h1 ht hnt hls;go_enter Tryz.func25,Tryz.ntmps25;go_wp2_with (first
   | (go_at_call 28;refine (HNW.out _).mono ?_;rintro e w1 ⟨A1,c1,rfl,hT1,hB1,hcap1⟩;have HT:=hd_ hT1;have HB:=hd_ hB1;have HCAP:=hd_ hcap1;have hz1:=hB1.size;clear hB1 hT1 hcap1)
   | (go_at_call 50;refine (HF.out A1 c1 _ HCAP.out HT.out).mono ?_;rintro e w2 ⟨A2,c2,rfl,hT2,hB2⟩;have HT2:=hd_ hT2;have HB:=hd_ (HB.out.trans (hB2.mono hz1));clear hB2 hT2))
  go_loopw [8,9] (fun v i wr=>∃ k:Nat,k<=L.length/\i=.int .i64 (k:Nat)/\v=.string (c1_ (L.take k))/\wr=w2) (fun _ i _=>L.length-(intOf i).toNat)
  case atStart=>exact ⟨0,by omega,rfl,rfl,rfl⟩
  case round =>
   obtain ⟨k,hk,rfl,rfl,rfl⟩:=hrel
   by_cases hlt:k<L.length
   ·have d3:decide ((k:Int)<(L.length:Int))=true:=decide_eq_true om_;obtain ⟨b6,o6,u6,rfl,hb6,hu6,hc6⟩:=HT2.out.1.one (k:=k) hlt;have hu:u6=.string L[k]:=by rw [List.getElem?_map,List.getElem?_eq_getElem hlt] at hu6;simpa using hu6.symm
    subst hu;have hst:=HSTEP.out k hlt;have hs1:=HSZ.out k;have hs2:=HLS.out L[k] (List.getElem_mem hlt);have HST:Hid (c1_ (L.take k)++⟨#[35,32]⟩++L[k]++⟨#[10]⟩=c1_ (L.take (k+1))):=hd_ (by rw [hst];simp only [ByteArray.append_assoc]);clear hst hu6;generalize c1_ (L.take k)=t1 at *;generalize L[k]=u at *;go_wp2;go_roundw
    case measure=>exact iX_
    case rel=>exact ⟨k+1,hlt,by first|go_num|rfl,by rw [← HST.out],by first|rfl|trivial⟩
   ·have hke:k=L.length:=by omega
    have d3:decide ((k:Int)<(L.length:Int))=false:=decide_eq_false om_;rw [HE.out k om_]
    by_cases h0:L=[]
    ·have HR:Hid (dT_ t W=⟨#[35,10]⟩):=hd_ (by rw [HNT.out,if_pos h0]);have d4:((L.length:Int)==0)=true:=by rw [h0];rfl
     clear h0;generalize c1_ L=Z at *;go_wp2;refine bodyPost_ret (v:=.tuple #[.string ⟨#[35,10]⟩,.int .i64 0,.bool true]) (by simp [results,Tryz.results25,go_sem]) rfl ?_;rw [HR.out];exact ⟨HB.out,.inl ⟨HFW.out,rfl⟩⟩
    ·have HR:Hid (dT_ t W=c1_ L):=hd_ (by rw [HNT.out,if_neg h0]);have d4:((L.length:Int)==0)=false:=by
      rw [beq_eq_false_iff_ne];intro e;exact h0 (List.eq_nil_of_length_eq_zero om_)
     clear h0;generalize c1_ L=Z at *;go_wp2;refine bodyPost_ret (v:=.tuple #[.string Z,.int .i64 0,.bool true]) (by simp [results,Tryz.results25,go_sem]) rfl ?_;rw [HR.out];exact ⟨HB.out,.inl ⟨HFW.out,rfl⟩⟩
 ·have h0:=(Tr.of_check ht).pos0;have hq3:cB_ l W=if 400<(eP_ l).length then 3 else 0:=by rw [cB_,if_neg (by simp [hw]),if_neg (by simp [ht]),if_neg h9]
  have hx:eJ_ l W=bT W.toNat (a7_ (eP_ l) 0)++⟨#[10]⟩:=by rw [eJ_,if_neg h9]
  have hDOC:=iR_ ht h9;have HFU:Hid (jR_ l=(decide (400<(eP_ l).length)||decide ((a7_ (eP_ l) 0).ways.length<=300))):=hd_ (by simp [jR_,h9]);unfold pF_;rw [hq3,hx];have HDO0:=hd_ (fun A=>ak1_ (A:=A) (c:=c) (Tr.of_check ht) l.length 0 0 w rfl);have hd9:=g7_ (Tr.of_check ht) (f:=l.length) om_ h0 h9;rw [show aC_ l l.length 0=eP_ l from rfl] at hd9;obtain ⟨b,off,op,t,n,rfl,hb,ho,hnd,hts,d1,d2⟩:=hl.head0 h0;have ho9:(op==9)=false:=by rw [← ho];simpa using h9
  have HDO:=hd_ (HDO0.out (some ⟨b,off,none⟩) hl h0 om_ h9);rw [show aC_ l l.length 0=eP_ l from rfl] at HDO;obtain ⟨WN,hWN⟩:∃ n:Nat,W=(n:Nat):=⟨W.toNat,by omega⟩;subst hWN;rw [show ((WN:Nat):Int).toNat=WN from rfl];generalize eP_ l=d at *;clear hl hsh ht ho hnd h9 hq3 hx HDO0
  by_cases h4:400<d.length
  ·have d4:decide ((d.length:Int)>400)=true:=decide_eq_true om_;rw [if_pos h4];have HFW:Hid (jR_ l=true):=hd_ (by rw [HFU.out,decide_eq_true h4];rfl);clear hDOC HFU;go_enter Tryz.func25,Tryz.ntmps25;go_wp2_with (go_at_call 51;refine HDO.out.mono ?_;rintro e w2 ⟨A2,c2,rfl,hn,hB⟩;have HB:=hd_ hB;clear hB hn);refine bodyPost_ret (v:=.tuple #[.string ⟨#[]⟩,.int .i64 3,.bool true]) (by simp [results,Tryz.results25,go_sem]) rfl ?_;exact ⟨HB.out,.inl ⟨HFW.out,rfl⟩⟩
  ·have d4:decide ((d.length:Int)>400)=false:=decide_eq_false om_;rw [if_neg h4,if_pos rfl];obtain ⟨x,hxd⟩:=hDOC om_;have HBO:=hd_ (fun A2 c2 (w':World) h=>z2_ hxd A2 d.length c2 rfl WN w' h);have hr:=hxd.root;have hs:=(hxd.best_shown WN).size;rw [hr];rw [hr,decide_eq_false h4,Bool.false_or] at HFU;unfold wD_ at HBO;clear hDOC hxd hr;generalize bT WN x=T at *;go_enter Tryz.func25,Tryz.ntmps25;go_upto_region 14 with (go_at_call 51;refine HDO.out.mono ?_;rintro e w2 ⟨A2,c2,rfl,hn,hB⟩;have HX:=hd_ hn.1;have HB:=hd_ hB;clear hB hn);go_upto_region 15 with (go_at_call 52;refine (HBO.out A2 c2 _ HX.out).mono ?_;rintro e w3 ⟨hB3,hres⟩;have HB:=hd_ (HB.out.trans (hB3.mono HB.out.size));clear hB3;rcases hres with ⟨hlw,A3,c3,rfl,hn3,hs3⟩|⟨hlw,rfl⟩)
   ·have hz3:=HB.out.size;have hB:=HB.out;clear HBO HDO;go_wp2;refine bodyPost_ret (v:=.tuple #[.string (T++⟨#[10]⟩),.int .i64 0,.bool true]) (by simp [results,Tryz.results25,go_sem]) rfl ?_;exact ⟨aF_,.inl ⟨by rw [HFU.out];exact decide_eq_true hlw,rfl⟩⟩
   ·have hz3:=HB.out.size;have hB:=HB.out;clear HBO HDO;go_wp2;refine bodyPost_ret (v:=.tuple #[.string ⟨#[10]⟩,.int .i64 0,.bool false]) (by simp [results,Tryz.results25,go_sem]) rfl ?_;exact ⟨aF_,.inr ⟨by rw [HFU.out];exact decide_eq_false om_,_,rfl⟩⟩
def g0_ (W:Int):List (List Nd)->Bool
 | []=>true
 | u::r=>if jR_ u=false then false else if cB_ u W≠0 then true else g0_ W r
theorem aeZ_ (W:Int) {p:List (List Nd)} {k:Nat} {u:List Nd} (hu:p[k]?=some u) (h:g0_ W (p.drop k)=g0_ W p):(jR_ u=false->g0_ W p=false)/\(jR_ u=true->cB_ u W≠0->g0_ W p=true)/\(jR_ u=true->cB_ u W=0->g0_ W (p.drop (k+1))=g0_ W p):=by
 obtain ⟨hk,rfl⟩:=List.getElem?_eq_some_iff.1 hu;rw [List.drop_eq_getElem_cons hk,g0_] at h;refine ⟨fun h1=>?_,fun h1 h2=>?_,fun h1 h2=>?_⟩
 ·rw [if_pos h1] at h;exact h.symm
 ·rw [if_neg (by simp [h1]),if_pos h2] at h;exact h.symm
 ·rw [if_neg (by simp [h1]),if_neg (by simpa using h2)] at h;exact h
def tT_ (p:List (List Nd)) (W:Int) (w:World) (e:Ending) (w':World):Prop:=Below w.heap.size w w' /\
 ((g0_ W p=true/\e=.returned (.tuple #[.string (if bH_ W p=0 then cK_ W p else .empty),.int .i64 (bH_ W p),.bool true]))∨(g0_ W p=false/\∃ k:Int,e=.returned (.tuple #[.string .empty,.int .i64 k,.bool false])))
theorem an3_ (h:P:=by
 refine bodyPost_ret (v:=.tuple #[.string ⟨#[]⟩,.int .i64 0,.bool false]) (by simp [results,Tryz.results10,go_sem]) rfl ?_;exact ⟨HB3.out,.inr ⟨HU1.out hf3,_,rfl⟩⟩):P:=h
theorem an4_ (h:P:=by
 go_upto_region 6 with (go_at_call 25;refine HONE.out.mono ?_;rintro e w3 ⟨hB3,hr3⟩;have HB3:=hd_ (HB.out.trans (hB3.mono HB.out.size));clear hB3;rcases hr3 with ⟨hf3,rfl⟩|⟨hf3,T3,rfl⟩)
 first
 |
  ·go_wp2;go_roundw
   case measure=>exact me_
   case rel=>exact ⟨k+1,by omega,by go_num,by rw [HST.out],HA2,hd_ (HU4.out hf3),HB3⟩
  ·go_wp2;exact an3_
  done
 |
  ·go_wp2;refine bodyPost_ret (v:=.tuple #[.string ⟨#[]⟩,.int .i64 q,.bool true]) (by simp [results,Tryz.results10,go_sem]) rfl ?_;exact ⟨HB3.out,.inl ⟨HU4.out hf3,by rw [HFE.out]⟩⟩
  ·go_wp2;exact an3_):P:=h
theorem xM_ (p:List (List Nd)) (W:Int) (n:Nat) (hn:p.length=n) (P:Option Addr) (cp:Nat) (w:World) (hp:Prg w w.heap.size P p) (hT:∀ u ∈ p,aM_ u=0) (h20:n<=20) (hw:bQ_ W=true) :
  Calls Tryz.prog 10 #[.slice P n cp,.int .i64 W] w (tT_ p W w):=by
 unfold tT_;have HPR:=hd_ hp;have HT:=hd_ hT;have HN:=hd_ hn;have HW:=hd_ hw;have HSZ:Hid (∀ k,k<=p.length->(∀ j u,p[j]?=some u->j<k->cB_ u W=0)->(cK_ W (p.take k)).size<=1500000*k):=hd_ (fun k=>by
  induction k with
  | zero=>intro _ _;simp [cK_]
  | succ k ih =>
   intro hk h;have hlt:k<p.length:=by omega
   have hu:p[k]?=some p[k]:=List.getElem?_eq_getElem hlt;rw [jY_ W hu,ByteArray.size_append];have h1:=ih om_ (fun j u hj hjk=>h j u hj om_);have hq:=h k p[k] hu om_;have ht:=(fL_ hq).2.1;have h2:=(pT_ hq (fun h9=>iR_ ht h9 (by have:=(fL_ hq).2.2 h9;omega))).small;omega)
 have hend:bH_ W (p.drop p.length)=bH_ W p->bH_ W p=0:=fun h=>by rw [← h,List.drop_length];rfl
 have HEND:=hd_ hend;have HALL:Hid (∀ k,p.length<=k->cK_ W (p.take k)=cK_ W p):=hd_ (fun k hk=>by rw [List.take_of_length_le hk]);obtain ⟨Z,hZ⟩:∃ Z,(if bH_ W p=0 then cK_ W p else ByteArray.empty)=Z:=⟨_,rfl⟩;have HZ0:Hid (bH_ W p=0->Z=cK_ W p):=hd_ (fun h=>by rw [← hZ,if_pos h]);have HZ1:Hid (bH_ W p≠0->Z=⟨#[]⟩):=hd_ (fun h=>by rw [← hZ,if_neg h];rfl);rw [hZ];clear hp hT hn hend hw hZ;go_enter Tryz.func10,Tryz.ntmps10;go_wp2;go_loopw [7,8,9,10,11] (fun s i _ _ _ wr=>∃ k:Nat,k<=n/\i=.int .i64 k/\s=.string (cK_ W (p.take k))/\Hid (bH_ W (p.drop k)=bH_ W p/\∀ j u,p[j]?=some u->j<k->cB_ u W=0)/\Hid (g0_ W (p.drop k)=g0_ W p)/\Hid (Below w.heap.size w wr)) (fun _ i _ _ _ _=>n-(intOf i).toNat)
 case atStart=>exact ⟨0,by omega,rfl,by rw [List.take_zero,cK_];rfl,hd_ ⟨rfl,fun j u hj hjk=>by omega⟩,hd_ rfl,hd_ (Below.refl _ _)⟩
 case round =>
  obtain ⟨k,hk,rfl,rfl,HA,HFP,HB⟩:=hrel
  by_cases hlt:k<n
  ·obtain ⟨b,off,Ak,ck,u,rfl,hb,hu,hc,hN,hS⟩:=HPR.out.one HB.out (k:=k) (by rw [HN.out];exact hlt);have hut:=HT.out u (List.mem_of_getElem? hu);have HONE:=hd_ (ad4_ u W Ak ck wr hN hS hut HW.out);unfold pF_ at HONE;obtain ⟨e1,e2⟩:=acP_ W hu HA.out.1;obtain ⟨u1,u2,u3⟩:=aeZ_ W hu HFP.out;have HU1:=hd_ u1;have HU2:=hd_ u2;have HU3:=hd_ u3;obtain ⟨fw,hfw⟩:∃ b,jR_ u=b:=⟨_,rfl⟩;rw [hfw] at HONE HU1 HU2 HU3;clear u1 u2 u3
   by_cases hq:cB_ u W=0
   ·have hdc:a9_ u 0≠9->∃ x,Doc (eP_ u) x:=fun h9=>iR_ hut h9 (by have:=(fL_ hq).2.2 h9;omega)
    rw [if_pos hq,hq] at HONE;have hsm:=(pT_ hq hdc).small;have HST:=hd_ (jY_ W hu);have HA2:Hid (bH_ W (p.drop (k+1))=bH_ W p/\∀ j v,p[j]?=some v->j<k+1->cB_ v W=0):=hd_ ⟨e2 hq,fun j v hj hjk=>by
     by_cases hjk2:j=k
     ·subst hjk2;rw [hu] at hj;cases hj;exact hq
     ·exact HA.out.2 j v hj om_⟩
    have hks:=HSZ.out k (by rw [HN.out];exact hk) HA.out.2;have hk20:1500000*k<=30000000:=by omega
    generalize cK_ W (p.take k)=Q at *;generalize eJ_ u W=X at *;have HU4:=hd_ (fun h=>HU3.out h hq);clear hN hS hu hut e1 e2 hq hdc HA hfw HU2 HU3;exact an4_
   ·have hfe:=e1 hq;rw [if_neg hq] at HONE;have hz:=HZ1.out (by rw [hfe];exact hq);subst hz;have HFE:=hd_ hfe;have d1:(cB_ u W==0)=false:=beq_eq_false_iff_ne.2 hq;have d2:decide (cB_ u W=0)=false:=decide_eq_false hq;generalize cB_ u W=q at *;have HU4:=hd_ (fun h=>HU2.out h hq);clear hN hS hu hut e1 e2 HA hfe hfw HU2 HU3;exact an4_
  ·have hkp:k=p.length:=by rw [HN.out];omega
   have h0:=HEND.out (by have:=HA.out.1;rwa [hkp] at this);have hz:=HZ0.out h0;subst hz;rw [HALL.out k om_];have HFE:=hd_ h0;have HFZ:Hid (g0_ W p=true):=hd_ (by rw [← HFP.out,hkp,List.drop_length];rfl);obtain ⟨TT,hTT⟩:∃ t,cK_ W p=t:=⟨_,rfl⟩;rw [hTT];have HTT:=hd_ hTT;clear hTT HALL HEND HA h0 HZ0 HZ1;go_wp2;refine bodyPost_ret (v:=.tuple #[.string TT,.int .i64 0,.bool true]) (by simp [results,Tryz.results10,go_sem]) rfl ?_;exact ⟨HB.out,.inl ⟨HFZ.out,by rw [HFE.out,HTT.out]⟩⟩
theorem ac3_ (h:P:=by
 go_enter Tryz.func7,Tryz.ntmps7;go_wp2;go_ret;exact ⟨by first|rfl|(simp;done)|(simp;omega),rfl⟩):P:=h
theorem vE_ (W:Int) (w:World):Calls Tryz.prog 7 #[.int .i64 W] w fun e w'=>e=.returned (.bool (bQ_ W))/\w=w':=by
 by_cases h1:10<=W
 ·by_cases h2:W<=100
  ·have hr:bQ_ W=true:=by simp [bQ_,h1,h2]
   rw [hr];exact ac3_
  ·have hr:bQ_ W=false:=by simp [bQ_,h2]
   rw [hr];exact ac3_
 ·have hr:bQ_ W=false:=by simp [bQ_,h1]
  rw [hr];have h3:decide (W≥10)=false:=decide_eq_false h1;exact ac3_
theorem zP_ {s:ByteArray} {k:Nat} {l:List (List Nd)} (h:bC_ s=(0,k,l)):k=0:=by
 unfold bC_ at h
 split at h
 ·rename_i h1;simp only [Prod.mk.injEq] at h;omega
 ·split at h
  ·simp only [Prod.mk.injEq] at h;omega
  ·split at h
   ·simp only [Prod.mk.injEq] at h;exact h.2.1.symm
   ·simp only [Prod.mk.injEq] at h;omega
theorem ag8_ {s:ByteArray} {f:Int} {k n:Nat} {l:List (List Nd)} (h:bC_ s=(f,k,l)) (hn:l.length=n) (w:World) (hs:s.size<=maxLen):Calls Tryz.prog 12 #[.string s] w fun e w'=>∃ A c,e=.returned (.tuple #[.slice A n c,.int .i64 (k:Nat),.int .i64 f])/\d1_ w.heap.size w' A l/\Below w.heap.size w w':=by
 have:=zQ_ s w hs;unfold fY_ at this;rw [h] at this;subst hn;exact this
end
section

end
section
open Go.RowKit
theorem v3_ {s:ByteArray} {k n:Nat} {l:List (List Nd)} (h:bC_ s=(0,k,l)) (hn:l.length=n) (w:World) (hs:s.size<=maxLen) (hm:cQ_ w):Calls Tryz.prog 21 #[.string s] w fun e w'=>∃ A c,e=.returned (.tuple #[.slice A n c,.int .i64 (k:Nat),.nilIface])/\d1_ w.heap.size w' A l/\Below w.heap.size w w':=by
 have:=ajY_ (s:=s) (by rw [h]) w hs hm;rw [h] at this;subst hn;exact this
theorem ad6_ {s:ByteArray} {f:Int} {k n:Nat} {l:List (List Nd)} (h:bC_ s=(f,k,l)) (hf:f≠0) (hn:l.length=n) (w:World) (hs:s.size<=maxLen) (hm:cQ_ w):Calls Tryz.prog 21 #[.string s] w fun e w'=>∃ A c,e=.returned (.tuple #[.slice A n c,.int .i64 (k:Nat),.iface 24 (.int .i64 f)])/\d1_ w.heap.size w' A l/\Below w.heap.size w w':=by
 have:=ag7_ (s:=s) (by rw [h];exact hf) w hs hm;rw [h] at this;subst hn;exact this
end
end Go.Proofs.YtddfdmopaeghnadGreatDoor
