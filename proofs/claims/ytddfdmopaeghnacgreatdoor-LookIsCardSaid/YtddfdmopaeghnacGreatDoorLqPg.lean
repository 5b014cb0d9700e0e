/- What every law's row wants: arguments read as before behind a call that leaves old memory as it was; slices of nodes, of texts, of numbers opened. With what it rests on. Conditions: as each theorem states them. -/
import Derived.Test.YtddfdmopaeghnacGreatDoorRows
import Derived.Test.YtddfdmopaeghnacGreatDoorLqMm
import Derived.ProofKit
import Derived.Deep.Slices
import Derived.SizedLaws
import Derived.Test.YtddfdmopaeghnacGreatDoorLqTr
import Derived.Deep.DeepHandedRow
import Derived.Lib.LaidTab
import Derived.Shelf.Vars
import Derived.Test.YtddfdmopaeghnacGreatDoorLqEr
import Derived.ChangeSame
import Derived.ChangeVars
import Derived.JoinedOf
import Derived.RowKit
import Derived.RowKitTokens
import Derived.LaidLaws
import Derived.LaidHandle
import Derived.Stop.Joined
import Derived.Test.YtddfdmopaeghnacGreatDoorLqSy
import Derived.Lib.TrailingZeros
import Derived.Lib.ItoaNum
import Derived.Test.YtddfdmopaeghnacGreatDoorLqPa
import Derived.Test.YtddfdmopaeghnacGreatDoorLqPs
import Derived.Test.YtddfdmopaeghnacGreatDoorLqBe
import Derived.Test.YtddfdmopaeghnacGreatDoorLqLo
import Derived.Test.YtddfdmopaeghnacGreatDoorLqRm
import Derived.Test.YtddfdmopaeghnacGreatDoorLqFi
import Derived.Test.YtddfdmopaeghnacGreatDoorLqBo
import Derived.Test.YtddfdmopaeghnacGreatDoorLqRr
import Derived.Lib.Split
import Derived.Lib.SplitLaws
set_option maxRecDepth 100000
set_option maxHeartbeats 16000000
namespace Go.Proofs.YtddfdmopaeghnacGreatDoor
open Go.ChangeShapes Go.WideShapes Go.ChangeAt Go.RowKit Go.Deep
theorem own:ownKnob Tryz.prog.godebug=none:=by kernel_rfl
theorem agH_:laidOutB Tryz.prog=true:=by kernel_rfl
section
variable {H:Type} {enc:TypeId × Value->H} {P:Program}
theorem nX_ (hl:laidOutB P=true) {W W':World} (hb:Below W.heap.size W W') {sp:Nat->Bool} :
  ∀ {ts:List TypeId} {vs:List Value} {ds:List (DataW H)} {p:List MemPlace},(∀ t ∈ ts,P.readableRec t=true/\t<P.types.size) ->
   DataW.TrodAll enc P W 0 (fun _=>true) true ts vs ds p->(∀ x ∈ p,x.block<W.heap.size)->(∀ x ∈ p,sp x.block=true)->DataW.TrodAll enc P W' 0 sp true ts vs ds p
 | [],_,_,_,_,h,_,_=>by
  obtain ⟨rfl,rfl,rfl⟩:=trodAll_nil h
  exact h
 | t::ts,_,_,_,hr,h,hlt,hsp=>by
  obtain ⟨v,vs1,d,ds1,a,b,rfl,rfl,rfl,h1,h2⟩:=trodAll_cons h
  obtain ⟨r1,r2⟩:=hr t (by simp)
  exact ⟨a,b,WideElems.Trod_stays hl r1 r2 h1 (fun x hx=>hb.same (hlt x (List.mem_append_left _ hx))) (fun x hx=>hsp x (List.mem_append_left _ hx)),
   nX_ hl hb (fun t ht=>hr t (by simp [ht])) h2 (fun x hx=>hlt x (List.mem_append_right _ hx)) (fun x hx=>hsp x (List.mem_append_right _ hx)),rfl⟩
theorem adO_ {f:Func} {s:ChangeSpec} {W W':World} {args:Array Value} {ds gs:List (DataW H)} {before:List MemPlace} {t:TypeId}
  (hW:DataW.Whole enc P f.params.toList s.vars false W args.toList ds gs before) (hv:s.vars=[])
  (hfn:s.fn H (ds++[])={ results:=[.lit (.bool true)],args:=ds }) (hres:f.resultTypes=#[t]) (ht:P.underlying t=some .bool)
  (hl:laidOutB P=true) (hr:(f.params.toList.all fun t=>P.readableRec t&&decide (t<P.types.size))=true) (hb:Below W.heap.size W W') :
  s.post enc P f false true false false W args (.bool true) W':=by
 have hW0:=hW
 have hlt:∀ x ∈ before,x.block<W.heap.size:=fun x hx=>hW.lt x hx
 obtain ⟨p,q,hA,hV,rfl,hfz,hnd⟩:=hW
 rw [hv] at hV
 obtain ⟨rfl,rfl⟩:=trodVars_none hV
 have hr':∀ t ∈ f.params.toList,P.readableRec t=true/\t<P.types.size:=fun t ht=>by
  have:=List.all_eq_true.1 hr t ht
  simpa using this
 refine ⟨ds,[],p++[],[],p,[],hW0, ?_, ?_, ?_,hb.frame _,fun h=>by cases h⟩
 ·rw [hfn,hres]
  exact trodAll_mk1 (shut_bool ht true)
 ·rw [hfn]
  refine nX_ hl hb hr' hA (fun x hx=>hlt x (by simpa using hx)) (fun x hx=>by simpa using hlt x (by simpa using hx))
 ·rw [hfn,hv]
  exact rfl
theorem ah2_ {W:World} {t e:TypeId} {sz base:Nat} {v:Value} {d:DataW H} {p:List MemPlace} (ht:P.underlying t=some (.slice e)) (hC:P.cellsOf e=sz) (hz:0<sz)
  (hv:Value.okWide P W .any base t v) (h:DataW.Trod enc P W 0 (fun _=>true) true t v d p) (hlt:∀ x ∈ p,x.block<W.heap.size) :
  ∃ (A:Option Addr) (n c:Nat) (css:List (List Value)),v=.slice A n c/\css.length=n/\Sl W W.heap.size sz A n css.flatten/\n<=c/\n<=maxLen /\
   (d=.nil∨∃ elems spare:List (DataW H),d=.slice elems spare/\elems.length=n) /\
   ∀ cs ∈ css,cs.length=sz/\∃ (k:Nat) (y:DataW H × List MemPlace),DataW.trod enc P W 0 (fun _=>true) true k e cs=some y/\(∀ x ∈ y.2,x ∈ p)/\∃ elems spare:List (DataW H),d=.slice elems spare/\y.1 ∈ elems:=by
 obtain ⟨A,n,c,rfl⟩:=okWide_slice ht hv
 obtain ⟨fuel,hf⟩:=h
 rcases open_slice ht hf with ⟨hcs,hx⟩|⟨a,len,cap,m,k,D,Pl,hcs,_,hl,hm,hmm,hx,hi⟩
 ·simp [Value.cells] at hcs
  obtain ⟨rfl,rfl,rfl⟩:=hcs
  exact ⟨none,0,0,[],rfl,rfl,.nil_,Nat.le_refl _,by simp [maxLen],.inl (by cases hx;rfl),by simp⟩
 ·simp [Value.cells] at hcs
  obtain ⟨rfl,rfl,rfl⟩:=hcs
  simp only [if_true] at hmm
  subst hmm
  rw [hC] at hi hx
  obtain ⟨F,hF⟩:=choose_lt (α:=List Value) (p:=fun i cs=>W.cells? 0 (a.add (i*sz)) sz=some cs/\DataW.trod enc P W 0 (fun _=>true) true k e cs=some (D i,Pl i)) (fun i hi'=>hi i hi')
  have hlenF:∀ i,i<m->(F i).length=sz:=fun i hi'=>(World.cells?_some (hF i hi').1).2.1
  have hflat:∀ (q:Nat),q<=m->((List.range q).map F).flatten.length=q*sz/\∀ i j,i<q->j<sz->((List.range q).map F).flatten[i*sz+j]?=(F i)[j]?:=by
   intro q
   induction q with
   | zero=>intro _;exact ⟨by simp,fun i j hi'=>absurd hi' (by omega)⟩
   | succ q ih =>
    intro hq
    obtain ⟨h1,h2⟩:=ih (by omega)
    have e1:((List.range (q+1)).map F).flatten=((List.range q).map F).flatten++F q:=by simp [List.range_succ]
    rw [e1]
    refine ⟨by rw [List.length_append,h1,hlenF q (by omega),Nat.add_mul,Nat.one_mul],fun i j hi' hj=>?_⟩
    rcases Nat.lt_or_ge i q with hlt'|hge
    ·have:i*sz+j<q*sz:=by
      have:(i+1)*sz<=q*sz:=Nat.mul_le_mul_right _ hlt'
      rw [Nat.add_mul] at this;omega
     rw [List.getElem?_append_left (by omega)]
     exact h2 i j hlt' hj
    ·obtain rfl:i=q:=by omega
     rw [List.getElem?_append_right (by omega),h1]
     congr 1;omega
  have hp:p=MemPlace.row a (m*sz)++(List.range m).flatMap Pl:=by cases hx;rfl
  refine ⟨some a,n,m,(List.range n).map F,rfl,by simp,⟨(hflat n hl).1,fun hn=>?_⟩,hl,Nat.le_trans hl hm,.inr ⟨_,_,(by cases hx;rfl),by simp⟩, ?_⟩
  ·have hmpos:0<m*sz:=Nat.mul_pos (by omega) hz
   have hblk:a.block<W.heap.size:=hlt (.cell a.block (a.off+0)) (by rw [hp];exact List.mem_append_left _ (MemPlace.mem_row.2 ⟨0,hmpos,rfl⟩))
   have hc0:∀ i j,i<m->j<sz->W.cell? ((a.add (i*sz)).add j)=(F i)[j]?:=fun i j h1 h2=>(World.cells?_some (hF i h1).1).2.2 j h2
   have hspot:a.spot=none:=by
    have h0:=hc0 0 0 (by omega) hz
    rw [Nat.zero_mul,List.getElem?_eq_getElem (by rw [hlenF 0 (by omega)];exact hz)] at h0
    simp only [Addr.add,if_true,World.cell?] at h0
    split at h0
    ·split at h0
     ·cases h0
     ·rename_i hs
      cases hsp:a.spot with
      | none=>rfl
      | some _=>simp [hsp] at hs
    ·cases h0
   have ha:a=⟨a.block,a.off,none⟩:=by
    cases a
    simp only at hspot
    subst hspot
    rfl
   refine ⟨a.block,a.off,congrArg some ha,hblk,fun j u hu=>?_⟩
   have hjl:j<n*sz:=by
    rw [← (hflat n hl).1]
    exact (List.getElem?_eq_some_iff.1 hu).1
   have hdiv:j / sz<n:=(Nat.div_lt_iff_lt_mul hz).2 hjl
   have hmod:=Nat.mod_lt j hz
   have hj:j=j / sz*sz+j % sz:=by rw [Nat.mul_comm];exact (Nat.div_add_mod j sz).symm
   have h1:=(hflat n hl).2 (j / sz) (j % sz) hdiv hmod
   rw [← hj,hu] at h1
   have h2:=hc0 (j / sz) (j % sz) (by omega) hmod
   rw [Go.Deep.add_add,← hj,← h1] at h2
   rw [← h2]
   unfold Addr.add
   split
   ·rename_i h0;rw [h0,Nat.add_zero,← ha]
   ·rfl
  ·intro cs hcs
   obtain ⟨i,hi',rfl⟩:=List.mem_map.1 hcs
   have hi2:i<m:=by have:=List.mem_range.1 hi';omega
   refine ⟨hlenF i hi2,k,_,(hF i hi2).2,fun x hx'=>?_, ?_⟩
   ·rw [hp]
    exact List.mem_append_right _ (List.mem_flatMap.2 ⟨i,List.mem_range.2 hi2,hx'⟩)
   ·refine ⟨_,_,congrArg Prod.fst hx, ?_⟩
    exact List.mem_map_of_mem (List.mem_range.2 (List.mem_range.1 hi'))
theorem wH_ {α:Type} {css:List (List Value)} {f:α->List Value} {l:List α} (h:css=l.map f):css.flatten=l.flatMap f:=by
 rw [h,List.flatMap_def]
theorem agL_ {α:Type} {p:List Value->Prop} {q:α->Prop} {f:α->List Value} {css:List (List Value)} (h:∀ cs ∈ css,p cs) (hp:∀ cs,p cs->∃ a,cs=f a/\q a):∃ l:List α,css=l.map f/\∀ a ∈ l,q a:=by
 induction css with
 | nil=>exact ⟨[],rfl,by simp⟩
 | cons cs r ih =>
  obtain ⟨a,ha,hq⟩:=hp cs (h cs (by simp))
  obtain ⟨l,hl,hql⟩:=ih (fun c hc=>h c (by simp [hc]))
  refine ⟨a::l,by rw [hl,ha];rfl,fun x hx=>?_⟩
  rcases List.mem_cons.1 hx with rfl|hx
  ·exact hq
  ·exact hql x hx
end
end Go.Proofs.YtddfdmopaeghnacGreatDoor
namespace Go.Proofs.YtddfdmopaeghnacGreatDoor
open Go.ChangeShapes Go.WideShapes Go.ChangeAt Go.RowKit Go.Deep
section
variable {P:Program} {H:Type} {enc:TypeId × Value->H}
end
theorem aaE_:Tryz.prog.cellsOf 25=3:=by kernel_rfl
theorem rG_ {H:Type} {d:DataW H} {l:List (DataW H)} (h:d ∈ l):Rows.uptoBulk d<=Rows.uptoBulkAll l:=by
 induction l with
 | nil=>cases h
 | cons x r ih =>
  simp only [Rows.uptoBulkAll]
  cases List.mem_cons.1 h with
  | inl e=>subst e;omega
  | inr e=>have:=ih e;omega
theorem w8_ {H:Type} (bytes:List UInt8):Rows.uptoBulk (DataW.lit (H:=H) (.string bytes))=bytes.length+1:=by simp [Rows.uptoBulk]
theorem aaC_ {H:Type} {d:DataW H} {elems spare:List (DataW H)} (h:d ∈ elems):Rows.uptoBulk d<=Rows.uptoBulk (DataW.slice elems spare):=by
 have:=rG_ h
 simp only [Rows.uptoBulk];omega
theorem yA_ {H:Type} {d:DataW H} {parts:List (DataW H)} (h:d ∈ parts):Rows.uptoBulk d<=Rows.uptoBulk (DataW.agg parts):=by
 have:=rG_ h
 simp only [Rows.uptoBulk];omega
theorem akO_ {H:Type} {enc:TypeId × Value->H} {W:World} {base:Nat} {v:Value} {d:DataW H} {p:List MemPlace}
  (hv:Value.okWide Tryz.prog W .any base 22 v) (h:DataW.Trod enc Tryz.prog W 0 (fun _=>true) true 22 v d p) (hlt:∀ x ∈ p,x.block<W.heap.size) :
  ∃ (A:Option Addr) (c:Nat) (l:List Nd),v=.slice A l.length c/\Nds W W.heap.size A l/\l.length<=c/\∀ x ∈ l,x.text.size+1<=Rows.uptoBulk d:=by
 obtain ⟨A,n,c,css,rfl,rfl,hs,hc,hm,hd,hcs⟩:=ah2_ Tryz.underlying22 aaE_ (by omega) hv h hlt
 obtain ⟨l,hl,hw⟩:=agL_ (f:=c6_) (q:=fun x=>x.text.size<=maxLen/\x.text.size+1<=Rows.uptoBulk d) hcs (fun cs ⟨h1,k,y,hy,_,hin⟩=>by
  obtain ⟨xs,n,_,hyx,_,hlen,hf⟩:=DataW.trod_struct Tryz.underlying25 hy
  match cs,h1 with
  | [c0,c1,c2],_ =>
   match xs,hlen with
   | [y0,y1,y2],_ =>
    have e0:=hf 0 _ rfl
    have e1:=hf 1 _ rfl
    have e2:=hf 2 _ rfl
    have k0:Tryz.prog.cellsOf 3=1:=by kernel_rfl
    have k1:Tryz.prog.cellsOf 9=1:=by kernel_rfl
    simp [k0,k1] at e0 e1 e2
    obtain ⟨a,ha,_,wa⟩:=DataW.trod_int Tryz.underlying3 e0
    obtain ⟨t,htx,hy1,wt⟩:=DataW.trod_string Tryz.underlying9 e1
    obtain ⟨b,hb,_,wb⟩:=DataW.trod_int Tryz.underlying3 e2
    simp at ha htx hb
    subst ha htx hb
    refine ⟨⟨a,t,b⟩,rfl,wt, ?_⟩
    obtain ⟨elems,spare,he,hmem⟩:=hin
    rw [hyx] at hmem
    have h2:Rows.uptoBulk (DataW.lit (H:=H) (.string t.data.toList))<=Rows.uptoBulk (DataW.agg ([y0,y1,y2].map (·.1))):=yA_ (by rw [hy1];simp)
    have h3:=aaC_ (spare:=spare) hmem
    rw [w8_] at h2
    rw [he]
    have h4:t.data.toList.length=t.size:=by simp
    show t.size+1<=_
    simp only at h3
    omega)
 rw [wH_ hl] at hs
 have hlen:css.length=l.length:=by rw [hl,List.length_map]
 rw [hlen] at hs hc hm ⊢
 exact ⟨A,c,l,rfl,⟨hs,hm,fun x hx=>(hw x hx).1⟩,hc,fun x hx=>(hw x hx).2⟩
theorem agU_ {W:World} (h:W.ShapedOpen Tryz.prog):cU_ W:=by
 obtain ⟨m,hm⟩:=cell_of_shapedOpen_int (P:=Tryz.prog) (g:=1) (t:=3) (zero:=#[.int .i64 0]) (k:=.i64) h (of_decide_eq_true (by kernel_rfl)) (by kernel_rfl) rfl (by kernel_rfl) (by kernel_rfl) Tryz.underlying3
 refine ⟨?_,m,hm⟩
 rcases Nat.lt_or_ge 1 W.heap.size with h1|h1
 ·exact h1
 ·unfold World.cell? at hm
  simp [Array.getElem?_eq_none h1] at hm
end Go.Proofs.YtddfdmopaeghnacGreatDoor
namespace Go.Proofs.YtddfdmopaeghnacGreatDoor
open Go.ChangeShapes Go.WideShapes Go.RowKit
theorem ai7_ : Tryz.prog.globalNamed "errors.errorType" = some 0 := by kernel_rfl
theorem akG_ : (Tryz.prog.cutTypes.find? (·.1 == "internal/reflectlite.rtype")).map (·.2) = some 273 := by kernel_rfl
theorem aeF_:((List.range 355).filter fun t=>Tryz.prog.rowNamed t [101,114,114,111,114])=[28]:=by kernel_rfl
theorem abB_:Tryz.prog.types.size=355:=by kernel_rfl
theorem uE_ {W : World} (h : laidMetH Tryz.prog [("errors.errorType", Rows.laid_errors_errorType)] W) : hW_ W := by
 have h' : laidMet Tryz.prog [] W ∧ handlesMet Tryz.prog [("errors.errorType", Rows.laid_errors_errorType)] W := h
 obtain ⟨name,u,ty,e1,e2,e3,e4,e5⟩:=h'.2 _ (List.mem_singleton.2 rfl)
 have en:name=[101,114,114,111,114]:=(Option.some.inj e1).symm
 subst en
 obtain rfl:=Option.some.inj (akG_.symm.trans e2)
 have hm:ty ∈ (List.range 355).filter fun t=>Tryz.prog.rowNamed t [101,114,114,111,114]:=List.mem_filter.2 ⟨List.mem_range.2 (by rw [← abB_];exact e3),e4⟩
 rw [aeF_] at hm
 obtain rfl:=List.mem_singleton.1 hm
 have hh:typeHandle Tryz.prog 28=.pointer (some ⟨9,28,none⟩):=by kernel_rfl
 rw [hh] at e5
 have:=World.var?_cell ai7_ e5 0
 simpa [hW_] using this
theorem hW_.size {W:World} (h:hW_ W):0+1<=W.heap.size:=by
 rcases Nat.lt_or_ge 0 W.heap.size with h1|h1
 ·exact h1
 ·unfold hW_ World.cell? at h
  simp [Array.getElem?_eq_none h1] at h
end Go.Proofs.YtddfdmopaeghnacGreatDoor
namespace Go.Proofs.YtddfdmopaeghnacGreatDoor
open Go.ChangeShapes Go.WideShapes Go.RowKit
theorem wE_ {l : List (String × DataW Unit)} (hf : l.filter (fun x => x.2.handleName?.isSome) = [("errors.errorType", Rows.laid_errors_errorType)]) {W : World} (h : laidMetH Tryz.prog l W) : hW_ W := by
 refine uE_ ?_
 unfold laidMetH at h ⊢
 rw [hf] at h
 have e2 : ([("errors.errorType", Rows.laid_errors_errorType)] : List (String × DataW Unit)).filter (fun x => x.2.handleName?.isSome) = [("errors.errorType", Rows.laid_errors_errorType)] := rfl
 rw [e2]
 exact ⟨laidMet_nil _ _,h.2⟩
theorem wW_ {a b : String × DataW Unit} {l rest : List (String × DataW Unit)} (hf : l.filter (fun x => x.2.handleName?.isSome) = [("errors.errorType", Rows.laid_errors_errorType)])
  (hn : l.filter (fun x => x.2.handleName?.isNone) = a :: b :: ("internal/strconv.uint64pow10", Lib.tabData .u64 Lib.pow10Tab) :: rest) {W : World} (h : laidMetH Tryz.prog l W) : fB_ W := by
 unfold laidMetH at h
 rw [hf] at h
 have h1:=h.1
 rw [hn] at h1
 obtain ⟨ps,⟨_,_,_,_,_,q1,_,_,_,_,⟨_,_,_,_,_,q2,_,_,_,_,⟨g',t',cs,fuel,p,q,hg',ht',hvar,hd,_,_⟩,_⟩,_⟩,_⟩:=h1
 have hg : Tryz.prog.globalNamed "internal/strconv.uint64pow10" = some 2 := by kernel_rfl
 obtain rfl:=Option.some.inj (hg.symm.trans hg')
 have hty:(Tryz.prog.globals[2]?).map (·.type)=some 302:=by kernel_rfl
 obtain rfl:=Option.some.inj (hty.symm.trans ht')
 unfold fB_ Lib.TabIs
 rw [hvar,← Lib.cells_of_tab Tryz.underlying302 Tryz.underlying268 (by kernel_rfl) (by kernel_rfl) hd]
end Go.Proofs.YtddfdmopaeghnacGreatDoor
namespace Go.Proofs.YtddfdmopaeghnacGreatDoor
open Go.RowKit
noncomputable def nU_ (os:Os):World :=
 let w0:=World.holding Tryz.prog os ⟨#[],#[],[]⟩
 let n:=w0.heap.size
 { w0 with heap:=(((((((((w0.heap.modify 5 fun
   | .cells _ t frozen=>.cells (Lib.deBruijn32tab.map fun n:Nat=>Value.int .u8 n).toArray t frozen
   | o=>o).modify 6 fun
   | .cells _ t frozen=>.cells (Lib.deBruijn64tab.map fun n:Nat=>Value.int .u8 n).toArray t frozen
   | o=>o).modify 2 fun
   | .cells _ t frozen=>.cells (Lib.pow10Tab.map fun n:Int=>Value.int .u64 n).toArray t frozen
   | o=>o).modify 3 fun
   | .cells _ t frozen=>.cells (Go.Pinned.utf8FirstZ.map fun n:Nat=>Value.int .u8 n).toArray t frozen
   | o=>o).modify 4 fun
   | .cells _ t frozen=>.cells (([128,191,160,191,128,159,144,191,128,143]++List.replicate 22 0).map fun n:Nat=>Value.int .u8 n).toArray t frozen
   | o=>o).modify 0 fun
   | .cells _ t frozen=>.cells #[.iface 273 (.agg #[.pointer (some ⟨9,28,none⟩)])] t frozen
   | o=>o).modify 8 fun
   | .cells _ t frozen=>.cells #[.iface 326 (.pointer (some ⟨n,0,none⟩))] t frozen
   | o=>o).modify 7 fun
   | .cells _ t frozen=>.cells #[.iface 326 (.pointer (some ⟨n+1,0,none⟩))] t frozen
   | o=>o).push (.cells #[.string ⟨#[118,97,108,117,101,32,111,117,116,32,111,102,32,114,97,110,103,101]⟩] 328 (0,0))).push (.cells #[.string ⟨#[105,110,118,97,108,105,100,32,115,121,110,116,97,120]⟩] 328 (0,0)) }
def bN_ (W:Int):List (List Nd)->Int
 | []=>0
 | u::r=>if cH_ u W≠0 then cH_ u W else bN_ W r
def bT_ (W:Int):List (List Nd)->ByteArray
 | []=>.empty
 | u::r=>g3_ u W++bT_ W r
theorem jB_ (W:Int) {p:List (List Nd)} {k:Nat} {u:List Nd} (hu:p[k]?=some u):bT_ W (p.take (k+1))=bT_ W (p.take k)++g3_ u W:=by
 have happ:∀ a b:List (List Nd),bT_ W (a++b)=bT_ W a++bT_ W b:=fun a b=>by
  induction a with
  | nil=>simp [bT_]
  | cons x r ih=>simp [bT_,ih,ByteArray.append_assoc]
 rw [List.take_add_one,hu,happ]
 simp [bT_]
theorem pV_ (W:Int) {p:List (List Nd)} {k:Nat} {u:List Nd} (hu:p[k]?=some u) (h:bN_ W (p.drop k)=bN_ W p):(cH_ u W≠0->bN_ W p=cH_ u W)/\(cH_ u W=0->bN_ W (p.drop (k+1))=bN_ W p):=by
 obtain ⟨hk,rfl⟩:=List.getElem?_eq_some_iff.1 hu
 rw [List.drop_eq_getElem_cons hk,bN_] at h
 constructor
 ·intro hq;rw [if_pos hq] at h;exact h.symm
 ·intro hq;rw [if_neg (by simpa using hq)] at h;exact h
def fO_ (s:ByteArray) (W:Int):Int × Nat × ByteArray :=
 if c9_ W=false then (1,0,.empty)
 else if (aH_ s).1≠0 then ((aH_ s).1,(aH_ s).2.1,.empty)
 else if bN_ W (aH_ s).2.2≠0 then (bN_ W (aH_ s).2.2,0,.empty)
 else (0,0,bT_ W (aH_ s).2.2)
def tI_ (T:ByteArray) (k:Nat) (v:Value) (w:World) (e:Ending) (w':World):Prop:=e=.returned (.tuple #[.string T,.int .i64 (k:Nat),v])/\Below w.heap.size w w'
theorem agE_ (s:ByteArray) (W:Int) (w:World) (hs:s.size<=maxLen) (hm:cU_ w) (h:c9_ W=false∨(aH_ s).1≠0) :
  Calls Tryz.prog 30 #[.string s,.int .i64 W] w (tI_ .empty (fO_ s W).2.1 (.iface 43 (.int .i64 (fO_ s W).1)) w):=by
 have HW:=hd_ (fun w'=>mP_ W w')
 by_cases hw:c9_ W=false
 ·have hr:fO_ s W=(1,0,.empty):=by rw [fO_,if_pos hw]
  rw [hr]
  rw [hw] at HW
  clear hs hm h hw hr
  go_enter Tryz.func30,Tryz.ntmps30
  go_wp2_with (go_at_call 55;refine (HW.out _).mono ?_;rintro e w1 ⟨rfl,rfl⟩)
  go_ret3
  exact ⟨rfl,Below.refl _ _⟩
 ·have hw1:c9_ W=true:=by simpa using hw
  have hf:(aH_ s).1≠0:=by
   rcases h with h|h
   ·exact absurd h hw
   ·exact h
  have hr:fO_ s W=((aH_ s).1,(aH_ s).2.1,.empty):=by rw [fO_,if_neg hw,if_pos hf]
  rw [hr]
  rw [hw1] at HW
  have HP:=hd_ (nG_ hf w hs hm)
  generalize aH_ s=r at *
  clear hs hm h hw hw1 hr hf
  go_enter Tryz.func30,Tryz.ntmps30
  go_wp2_with (first
   | (go_at_call 55;refine (HW.out _).mono ?_;rintro e w1 ⟨rfl,rfl⟩)
   | (go_at_call 27;refine HP.out.mono ?_;rintro e w2 ⟨A2,c2,rfl,hF,hB⟩;have HB:=hd_ hB;clear hF hB))
  go_ret3
  exact ⟨rfl,HB.out⟩
theorem xD_ (s:ByteArray) (W:Int) (w:World) (hs:s.size<=maxLen) (hm:cU_ w) (hp:fB_ w) :
  Calls Tryz.prog 30 #[.string s,.int .i64 W] w (tI_ (fO_ s W).2.2 (fO_ s W).2.1 (dU_ (fO_ s W).1) w):=by
 by_cases hbad:c9_ W=false∨(aH_ s).1≠0
 ·have h1:=agE_ s W w hs hm hbad
  have h2:(fO_ s W).2.2=.empty/\(fO_ s W).1≠0:=by
   unfold fO_
   split
   ·exact ⟨rfl,by decide⟩
   ·split
    ·rename_i hf;exact ⟨rfl,hf⟩
    ·rename_i hw hf
     rcases hbad with h|h
     ·exact absurd h hw
     ·exact absurd h hf
  rw [h2.1,← bQ_ h2.2]
  exact h1
 ·have hw:c9_ W=true:=by
   cases h:c9_ W with
   | true=>rfl
   | false=>exact absurd (.inl h) hbad
  have hf:(aH_ s).1=0:=by
   by_cases h:(aH_ s).1=0
   ·exact h
   ·exact absurd (.inr h) hbad
  have HW:=hd_ (fun w'=>mP_ W w')
  rw [hw] at HW
  have hR:fO_ s W=if bN_ W (aH_ s).2.2≠0 then (bN_ W (aH_ s).2.2,0,.empty) else (0,0,bT_ W (aH_ s).2.2):=by
   rw [fO_,if_neg (by simp [hw]),if_neg (by simp [hf])]
  have hP:=p7_ hf w hs hm
  have htr:=oP_ (sD_ hf)
  have h20:=htr.1
  have HT:=hd_ htr.2.1
  rw [hR]
  generalize (aH_ s).2.2=p at *
  generalize (aH_ s).2.1=k0 at *
  have HE0:Hid (bN_ W p=0->(if bN_ W p≠0 then (bN_ W p,0,ByteArray.empty) else ((0:Int),(0:Nat),bT_ W p))=(0,0,bT_ W p)):=hd_ (fun h=>by rw [if_neg (by simpa using h)])
  have HE1:Hid (bN_ W p≠0->(if bN_ W p≠0 then (bN_ W p,0,ByteArray.empty) else ((0:Int),(0:Nat),bT_ W p))=(bN_ W p,0,.empty)):=hd_ (fun h=>by rw [if_pos h])
  have HP:=hd_ hP
  have HM:=hd_ hm;have HPW:=hd_ hp
  have HSZ:Hid (∀ k,k<=p.length->(∀ j u,p[j]?=some u->j<k->cH_ u W=0)->(bT_ W (p.take k)).size<=1500000*k):=hd_ (fun k=>by
   induction k with
   | zero=>intro _ _;simp [bT_]
   | succ k ih =>
    intro hk h
    have hlt:k<p.length:=by omega
    have hu:p[k]?=some p[k]:=List.getElem?_eq_getElem hlt
    rw [jB_ W hu,ByteArray.size_append]
    have h1:=ih (by omega) (fun j u hj hjk=>h j u hj (by omega))
    have hq:=h k p[k] hu (by omega)
    have ht:=(f4_ hq).2.1
    have h2:=(l7_ hq (fun h9=>iC_ ht h9 (by have:=(f4_ hq).2.2 h9;omega))).small
    omega)
  have hend:bN_ W (p.drop p.length)=bN_ W p->bN_ W p=0:=fun h=>by rw [← h,List.drop_length];rfl
  have HEND:=hd_ hend
  have HALL:Hid (∀ k,p.length<=k->bT_ W (p.take k)=bT_ W p):=hd_ (fun k hk=>by rw [List.take_of_length_le hk])
  clear hs hP hm hp hR htr hend hbad hw hf
  generalize hZ:(if bN_ W p≠0 then (bN_ W p,0,ByteArray.empty) else ((0:Int),(0:Nat),bT_ W p))=Z at *
  clear hZ
  go_enter Tryz.func30,Tryz.ntmps30
  go_wp2_with (first
   | (go_at_call 55;refine (HW.out _).mono ?_;rintro e w0 ⟨rfl,rfl⟩)
   | (go_at_call 27;refine HP.out.mono ?_;rintro e w1 ⟨P1,c1,rfl,hF,hB1⟩;have HPR:=hd_ hF.prg;have HB1:=hd_ hB1;clear hF hB1))
  have hb1:Below w1.heap.size w1 (w1.alloc (.cells #[.pointer none,.slice none 0 0] 104)):=(Below.refl _ _).alloc (Nat.le_refl _) _
  have HBD:Hid (Bld w1.heap.size w1.heap.size .empty (w1.alloc (.cells #[.pointer none,.slice none 0 0] 104))):=hd_ (Bld.new w1)
  have hz1:=HB1.out.size
  have HB0:=hd_ hb1
  clear hb1
  go_loopw [10,11,12,29] (fun _ _ _ i wr=>∃ k:Nat,k<=p.length/\i=.int .i64 k/\Hid (bN_ W (p.drop k)=bN_ W p/\∀ j u,p[j]?=some u->j<k->cH_ u W=0)/\Hid (Bld w1.heap.size w1.heap.size (bT_ W (p.take k)) wr)/\Hid (Below w1.heap.size w1 wr)) (fun _ _ _ i _=>p.length-(intOf i).toNat)
  case atStart=>exact ⟨0,by omega,rfl,hd_ ⟨rfl,fun j u hj hjk=>by omega⟩,HBD,HB0⟩
  case round =>
   clear HBD HB0
   obtain ⟨k,hk,rfl,HA,HBD,HB0⟩:=hrel
   by_cases hlt:k<p.length
   ·obtain ⟨b,off,Ak,ck,u,rfl,hb,hu,hc,hN,hS⟩:=HPR.out.one HB0.out hlt
    have hmem:u ∈ p:=List.mem_of_getElem? hu
    have hut:=HT.out u hmem
    have HB01:=hd_ (HB1.out.trans (HB0.out.mono hz1))
    obtain ⟨e1,e2⟩:=pV_ W hu HA.out.1
    by_cases hq:cH_ u W=0
    ·have hdc:aW_ u 0≠9->∃ x,Doc (e6_ u) x:=fun h9=>iC_ hut h9 (by have:=(f4_ hq).2.2 h9;omega)
     have HONE:=hd_ (ah5_ (fun l x A c w hl hd=>agZ_ l x A c w hl hd) u W Ak ck wr hN hS (HM.out.past HB01.out) (HPW.out.past HB01.out) hdc hq)
     have hsm:=(l7_ hq hdc).small
     have HST:=hd_ (jB_ W hu)
     have HA2:Hid (bN_ W (p.drop (k+1))=bN_ W p/\∀ j v,p[j]?=some v->j<k+1->cH_ v W=0):=hd_ ⟨e2 hq,fun j v hj hjk=>by
      by_cases hjk2:j=k
      ·subst hjk2;rw [hu] at hj;cases hj;exact hq
      ·exact HA.out.2 j v hj (by omega)⟩
     have hks:=HSZ.out k hk HA.out.2
     generalize bT_ W (p.take k)=Q at *
     generalize g3_ u W=T at *
     have hz0:=HB0.out.size
     clear hN hS hu hmem hut e1 e2 hq hdc HA
     go_wp2_with (first
      | (go_at_call 19;refine HONE.out.mono ?_;rintro e w3 ⟨rfl,hB3⟩;have HB3:=hd_ (HBD.out.past hB3);have HB4:=hd_ (HB0.out.trans (hB3.mono hz0));clear hB3)
      | (go_at_call 47;refine (rD_ _ _ Q _ _ HB3.out (by omega)).mono ?_;rintro e w4 ⟨rfl,hb5,hB5⟩;have HB5:=hd_ hb5;have HB6:=hd_ (HB4.out.trans hB5);clear hb5 hB5))
     go_roundw
     case measure=>simp [intOf];omega
     case rel=>exact ⟨k+1,by omega,by go_num,HA2,hd_ (by rw [HST.out];exact HB5.out),HB6⟩
    ·have HONE:=hd_ (aeL_ u W Ak ck wr hN hS (HM.out.past HB01.out) (HPW.out.past HB01.out) hq)
     have hfe:=e1 hq
     have hzz:=HE1.out (by rw [hfe];exact hq)
     subst hzz
     have HV:=hd_ (bQ_ hq)
     rw [hfe]
     generalize cH_ u W=q at *
     clear hN hS hu hmem hut e1 e2 HA
     go_wp2_with (go_at_call 19;refine HONE.out.mono ?_;rintro e w3 ⟨rfl,hB3⟩;have HB4:=hd_ (HB01.out.trans (hB3.mono HB01.out.size));clear hB3)
     go_ret3
     exact ⟨by rw [← HV.out];rfl,HB4.out⟩
   ·have hkp:k=p.length:=by omega
    have h0:=HEND.out (by have:=HA.out.1;rwa [hkp] at this)
    have hzz:=HE0.out h0
    subst hzz
    have HBZ:Hid (Bld w1.heap.size w1.heap.size (bT_ W p) wr):=hd_ (by rw [← HALL.out k (by omega)];exact HBD.out)
    generalize bT_ W p=TT at *
    clear HBD
    go_wp2_with (go_at_call 49;refine (pO_ _ _ _ _ HBZ.out).mono ?_;rintro e w5 ⟨rfl,hB5⟩;have HB7:=hd_ (HB1.out.trans ((HB0.out.trans hB5).mono hz1));clear hB5)
    go_ret3
    exact ⟨rfl,HB7.out⟩
def j5_ (u:List Nd):Bool:=decide (aW_ u 0=9)||decide (400<(e6_ u).length)||decide ((a6_ (e6_ u) 0).ways.length<=300)
def nZ_ (l:List Nd) (W:Int) (w:World) (e:Ending) (w':World):Prop:=Below w.heap.size w w' /\
 ((j5_ l=true/\e=.returned (.tuple #[.string (if cH_ l W=0 then g3_ l W else .empty),.int .i64 (cH_ l W),.bool true]))∨(j5_ l=false/\∃ T:ByteArray,e=.returned (.tuple #[.string T,.int .i64 0,.bool false])))
theorem rR_ {W:Int} {l:List ByteArray}:e8_ W l=[]↔l=[]:=by
 cases l with
 | nil=>exact ⟨fun _=>rfl,fun _=>rfl⟩
 | cons a r =>
  constructor
  ·intro h
   unfold e8_ gH_ at h
   simp [eN_] at h
  ·intro h;cases h
theorem z4_ (l:List Nd) (W:Int) (A:Option Addr) (c:Nat) (w:World) (hl:Nds w w.heap.size A l) (hsh:d6_ l) (ht:aY_ l=0) (hw:c9_ W=true) :
  Calls Tryz.prog 37 #[.slice A l.length c,.int .i64 W] w (nZ_ l W w):=by
 obtain ⟨w1,w2⟩:=j3_.1 hw
 by_cases h9:aW_ l 0=9
 ·obtain ⟨x,rfl,h1⟩:=nW_ ht h9
  obtain ⟨hfew,-⟩:=m7_ h1 hw
  have hq:cH_ [⟨9,x,0⟩] W=0:=by rw [cH_,if_neg (by simp [hw]),if_neg (by simp [ht]),if_pos h9]
  have hx:g3_ [⟨9,x,0⟩] W=dJ_ x W:=by rw [g3_,if_pos h9];rfl
  have HFW:Hid (j5_ [⟨9,x,0⟩]=true):=hd_ (by simp [j5_,h9])
  unfold nZ_
  rw [hq,if_pos rfl,hx]
  have hsz:x.size<4294967281:=hsh ⟨9,x,0⟩ (by simp)
  have HNW:=hd_ (fun w'=>tD_ x w' hsz)
  unfold qR_ at HNW
  have k1:IntKind.i64.wrap (W-2)=W-2:=IntWalk.i64_in _ (by omega)
  have HF:=hd_ (fun A1 c1 w' hcap hl'=>aaO_ (aS_ x) A1 _ c1 rfl hcap (W-2) w' hl' hfew)
  unfold x9_ at HF
  have hnt:dJ_ x W=if e8_ (W-2) (aS_ x)=[] then ⟨#[35,10]⟩ else bV_ (e8_ (W-2) (aS_ x)):=by
   unfold dJ_
   by_cases h:aS_ x=[]
   ·rw [if_pos h,if_pos (rR_.2 h)]
   ·rw [if_neg h,if_neg (fun hh=>h (rR_.1 hh))]
  obtain ⟨hl60,hls⟩:=hfew.fill_small
  generalize e8_ (W-2) (aS_ x)=L at *
  have HNT:=hd_ hnt
  have HSTEP:=hd_ (fun k (hk:k<L.length)=>q3_ hk)
  have HSZ:Hid (∀ k,(bV_ (L.take k)).size<=80000):=hd_ (fun k=>by
   have h:=m4_ (l:=L.take k) (fun u hu=>hls u (List.mem_of_mem_take hu))
   have h3:(L.take k).length<=60:=by rw [List.length_take];omega
   omega)
  have HE:Hid (∀ k,L.length<=k->bV_ (L.take k)=bV_ L):=hd_ (fun k hk=>by rw [List.take_of_length_le hk])
  have HLS:=hd_ hls
  obtain ⟨b,off,op,t,n,rfl,hb,ho,hnd,hts,d1,d2⟩:=hl.head0 (by simp)
  obtain ⟨e1,e2,e3⟩:op=9/\t=x/\n=0:=by
   have h:(⟨9,x,0⟩:Nd)=⟨op,t,n⟩:=hnd
   injection h with h1 h2 h3
   exact ⟨h1.symm,h2.symm,h3.symm⟩
  subst e1 e2 e3
  clear hl hsh ho hnd h9 hq hx hfew h1 ht hnt hls
  go_enter Tryz.func37,Tryz.ntmps37
  go_wp2_with (first
   | (go_at_call 59;refine (HNW.out _).mono ?_;rintro e w1 ⟨A1,c1,rfl,hT1,hB1,hcap1⟩;have HT:=hd_ hT1;have HB:=hd_ hB1;have HCAP:=hd_ hcap1;have hz1:=hB1.size;clear hB1 hT1 hcap1)
   | (go_at_call 75;refine (HF.out A1 c1 _ HCAP.out HT.out).mono ?_;rintro e w2 ⟨A2,c2,rfl,hT2,hB2⟩;have HT2:=hd_ hT2;have HB:=hd_ (HB.out.trans (hB2.mono hz1));clear hB2 hT2))
  go_loopw [8,9] (fun v i wr=>∃ k:Nat,k<=L.length/\i=.int .i64 (k:Nat)/\v=.string (bV_ (L.take k))/\wr=w2) (fun _ i _=>L.length-(intOf i).toNat)
  case atStart=>exact ⟨0,by omega,rfl,rfl,rfl⟩
  case round =>
   obtain ⟨k,hk,rfl,rfl,rfl⟩:=hrel
   by_cases hlt:k<L.length
   ·have d3:decide ((k:Int)<(L.length:Int))=true:=decide_eq_true (by omega)
    obtain ⟨b6,o6,u6,rfl,hb6,hu6,hc6⟩:=HT2.out.1.one (k:=k) hlt
    have hu:u6=.string L[k]:=by rw [List.getElem?_map,List.getElem?_eq_getElem hlt] at hu6;simpa using hu6.symm
    subst hu
    have hst:=HSTEP.out k hlt
    have hs1:=HSZ.out k
    have hs2:=HLS.out L[k] (List.getElem_mem hlt)
    have HST:Hid (bV_ (L.take k)++⟨#[35,32]⟩++L[k]++⟨#[10]⟩=bV_ (L.take (k+1))):=hd_ (by rw [hst];simp only [ByteArray.append_assoc])
    clear hst hu6
    generalize bV_ (L.take k)=t1 at *
    generalize L[k]=u at *
    go_wp2
    go_roundw
    case measure=>exact iI_
    case rel=>exact ⟨k+1,hlt,by first|go_num|rfl,by rw [← HST.out],by first|rfl|trivial⟩
   ·have hke:k=L.length:=by omega
    have d3:decide ((k:Int)<(L.length:Int))=false:=decide_eq_false (by omega)
    rw [HE.out k (by omega)]
    by_cases h0:L=[]
    ·have HR:Hid (dJ_ t W=⟨#[35,10]⟩):=hd_ (by rw [HNT.out,if_pos h0])
     have d4:((L.length:Int)==0)=true:=by rw [h0];rfl
     clear h0
     generalize bV_ L=Z at *
     go_wp2
     refine bodyPost_ret (v:=.tuple #[.string ⟨#[35,10]⟩,.int .i64 0,.bool true]) (by simp [results,Tryz.results37,go_sem]) rfl ?_
     rw [HR.out]
     exact ⟨HB.out,.inl ⟨HFW.out,rfl⟩⟩
    ·have HR:Hid (dJ_ t W=bV_ L):=hd_ (by rw [HNT.out,if_neg h0])
     have d4:((L.length:Int)==0)=false:=by
      rw [beq_eq_false_iff_ne]
      intro e
      exact h0 (List.eq_nil_of_length_eq_zero (by omega))
     clear h0
     generalize bV_ L=Z at *
     go_wp2
     refine bodyPost_ret (v:=.tuple #[.string Z,.int .i64 0,.bool true]) (by simp [results,Tryz.results37,go_sem]) rfl ?_
     rw [HR.out]
     exact ⟨HB.out,.inl ⟨HFW.out,rfl⟩⟩
 ·have h0:=(Tr.of_check ht).pos0
  have hq3:cH_ l W=if 400<(e6_ l).length then 3 else 0:=by rw [cH_,if_neg (by simp [hw]),if_neg (by simp [ht]),if_neg h9]
  have hx:g3_ l W=bT W.toNat (a6_ (e6_ l) 0)++⟨#[10]⟩:=by rw [g3_,if_neg h9]
  have hDOC:=iC_ ht h9
  have HFU:Hid (j5_ l=(decide (400<(e6_ l).length)||decide ((a6_ (e6_ l) 0).ways.length<=300))):=hd_ (by simp [j5_,h9])
  unfold nZ_
  rw [hq3,hx]
  have HDO0:=hd_ (fun A=>aeN_ (A:=A) (c:=c) (Tr.of_check ht) l.length 0 0 w rfl)
  have hd9:=fT_ (Tr.of_check ht) (f:=l.length) (by omega) h0 h9
  rw [show aG_ l l.length 0=e6_ l from rfl] at hd9
  obtain ⟨b,off,op,t,n,rfl,hb,ho,hnd,hts,d1,d2⟩:=hl.head0 h0
  have ho9:(op==9)=false:=by rw [← ho];simpa using h9
  have HDO:=hd_ (HDO0.out (some ⟨b,off,none⟩) hl h0 (by omega) h9)
  rw [show aG_ l l.length 0=e6_ l from rfl] at HDO
  obtain ⟨WN,hWN⟩:∃ n:Nat,W=(n:Nat):=⟨W.toNat,by omega⟩
  subst hWN
  rw [show ((WN:Nat):Int).toNat=WN from rfl]
  generalize e6_ l=d at *
  clear hl hsh ht ho hnd h9 hq3 hx HDO0
  by_cases h4:400<d.length
  ·have d4:decide ((d.length:Int)>400)=true:=decide_eq_true (by omega)
   rw [if_pos h4]
   have HFW:Hid (j5_ l=true):=hd_ (by rw [HFU.out,decide_eq_true h4];rfl)
   clear hDOC HFU
   go_enter Tryz.func37,Tryz.ntmps37
   go_wp2_with (go_at_call 62;refine HDO.out.mono ?_;rintro e w2 ⟨A2,c2,rfl,hn,hB⟩;have HB:=hd_ hB;clear hB hn)
   refine bodyPost_ret (v:=.tuple #[.string ⟨#[]⟩,.int .i64 3,.bool true]) (by simp [results,Tryz.results37,go_sem]) rfl ?_
   exact ⟨HB.out,.inl ⟨HFW.out,rfl⟩⟩
  ·have d4:decide ((d.length:Int)>400)=false:=decide_eq_false (by omega)
   rw [if_neg h4,if_pos rfl]
   obtain ⟨x,hxd⟩:=hDOC (by omega)
   have HBO:=hd_ (fun A2 c2 (w':World) h=>w6_ hxd A2 d.length c2 rfl WN w' h)
   have hr:=hxd.root
   have hs:=(hxd.best_shown WN).size
   rw [hr]
   rw [hr,decide_eq_false h4,Bool.false_or] at HFU
   unfold tP_ at HBO
   clear hDOC hxd hr
   generalize bT WN x=T at *
   go_enter Tryz.func37,Tryz.ntmps37
   go_upto_region 14 with (go_at_call 62;refine HDO.out.mono ?_;rintro e w2 ⟨A2,c2,rfl,hn,hB⟩;have HX:=hd_ hn.1;have HB:=hd_ hB;clear hB hn)
   go_upto_region 15 with (go_at_call 76;refine (HBO.out A2 c2 _ HX.out).mono ?_;rintro e w3 ⟨hB3,hres⟩;have HB:=hd_ (HB.out.trans (hB3.mono HB.out.size));clear hB3;rcases hres with ⟨hlw,A3,c3,rfl,hn3,hs3⟩|⟨hlw,rfl⟩)
   ·have hz3:=HB.out.size
    have hB:=HB.out
    clear HBO HDO
    go_wp2
    refine bodyPost_ret (v:=.tuple #[.string (T++⟨#[10]⟩),.int .i64 0,.bool true]) (by simp [results,Tryz.results37,go_sem]) rfl ?_
    exact ⟨aA_,.inl ⟨by rw [HFU.out];exact decide_eq_true hlw,rfl⟩⟩
   ·have hz3:=HB.out.size
    have hB:=HB.out
    clear HBO HDO
    go_wp2
    refine bodyPost_ret (v:=.tuple #[.string ⟨#[10]⟩,.int .i64 0,.bool false]) (by simp [results,Tryz.results37,go_sem]) rfl ?_
    exact ⟨aA_,.inr ⟨by rw [HFU.out];exact decide_eq_false (by omega),_,rfl⟩⟩
def tR_ (p:List (List Nd)) (W:Int) (w:World) (e:Ending) (w':World):Prop:=Below w.heap.size w w' /\
 (e=.returned (.tuple #[.string (if bN_ W p=0 then bT_ W p else .empty),.int .i64 (bN_ W p),.bool true])∨∃ k:Int,e=.returned (.tuple #[.string .empty,.int .i64 k,.bool false]))
def iD_ (W:Int):List (List Nd)->Bool
 | []=>true
 | u::r=>if j5_ u=false then false else if cH_ u W≠0 then true else iD_ W r
theorem aaN_ (W:Int) {p:List (List Nd)} {k:Nat} {u:List Nd} (hu:p[k]?=some u) (h:iD_ W (p.drop k)=iD_ W p):(j5_ u=false->iD_ W p=false)/\(j5_ u=true->cH_ u W≠0->iD_ W p=true)/\(j5_ u=true->cH_ u W=0->iD_ W (p.drop (k+1))=iD_ W p):=by
 obtain ⟨hk,rfl⟩:=List.getElem?_eq_some_iff.1 hu
 rw [List.drop_eq_getElem_cons hk,iD_] at h
 refine ⟨fun h1=>?_,fun h1 h2=>?_,fun h1 h2=>?_⟩
 ·rw [if_pos h1] at h;exact h.symm
 ·rw [if_neg (by simp [h1]),if_pos h2] at h;exact h.symm
 ·rw [if_neg (by simp [h1]),if_neg (by simpa using h2)] at h;exact h
def r8_ (p:List (List Nd)) (W:Int) (w:World) (e:Ending) (w':World):Prop:=Below w.heap.size w w' /\
 ((iD_ W p=true/\e=.returned (.tuple #[.string (if bN_ W p=0 then bT_ W p else .empty),.int .i64 (bN_ W p),.bool true]))∨(iD_ W p=false/\∃ k:Int,e=.returned (.tuple #[.string .empty,.int .i64 k,.bool false])))
theorem afN_ {P:Prop} (h:P:=by
 ·go_wp2
  refine bodyPost_ret (v:=.tuple #[.string ⟨#[]⟩,.int .i64 0,.bool false]) (by simp [results,Tryz.results38,go_sem]) rfl ?_
  exact ⟨HB3.out,.inr ⟨HU1.out hf3,_,rfl⟩⟩):P:=h
theorem uQ_ (p:List (List Nd)) (W:Int) (n:Nat) (hn:p.length=n) (P:Option Addr) (cp:Nat) (w:World) (hp:Prg w w.heap.size P p) (hT:∀ u ∈ p,aY_ u=0) (h20:n<=20) (hw:c9_ W=true) :
  Calls Tryz.prog 38 #[.slice P n cp,.int .i64 W] w (r8_ p W w):=by
 unfold r8_
 have HPR:=hd_ hp;have HT:=hd_ hT;have HN:=hd_ hn;have HW:=hd_ hw
 have HSZ:Hid (∀ k,k<=p.length->(∀ j u,p[j]?=some u->j<k->cH_ u W=0)->(bT_ W (p.take k)).size<=1500000*k):=hd_ (fun k=>by
  induction k with
  | zero=>intro _ _;simp [bT_]
  | succ k ih =>
   intro hk h
   have hlt:k<p.length:=by omega
   have hu:p[k]?=some p[k]:=List.getElem?_eq_getElem hlt
   rw [jB_ W hu,ByteArray.size_append]
   have h1:=ih (by omega) (fun j u hj hjk=>h j u hj (by omega))
   have hq:=h k p[k] hu (by omega)
   have ht:=(f4_ hq).2.1
   have h2:=(l7_ hq (fun h9=>iC_ ht h9 (by have:=(f4_ hq).2.2 h9;omega))).small
   omega)
 have hend:bN_ W (p.drop p.length)=bN_ W p->bN_ W p=0:=fun h=>by rw [← h,List.drop_length];rfl
 have HEND:=hd_ hend
 have HALL:Hid (∀ k,p.length<=k->bT_ W (p.take k)=bT_ W p):=hd_ (fun k hk=>by rw [List.take_of_length_le hk])
 obtain ⟨Z,hZ⟩:∃ Z,(if bN_ W p=0 then bT_ W p else ByteArray.empty)=Z:=⟨_,rfl⟩
 have HZ0:Hid (bN_ W p=0->Z=bT_ W p):=hd_ (fun h=>by rw [← hZ,if_pos h])
 have HZ1:Hid (bN_ W p≠0->Z=⟨#[]⟩):=hd_ (fun h=>by rw [← hZ,if_neg h];rfl)
 rw [hZ]
 clear hp hT hn hend hw hZ
 go_enter Tryz.func38,Tryz.ntmps38
 go_wp2
 go_loopw [7,8,9,10,11] (fun s i _ _ _ wr=>∃ k:Nat,k<=n/\i=.int .i64 k/\s=.string (bT_ W (p.take k))/\Hid (bN_ W (p.drop k)=bN_ W p/\∀ j u,p[j]?=some u->j<k->cH_ u W=0)/\Hid (iD_ W (p.drop k)=iD_ W p)/\Hid (Below w.heap.size w wr)) (fun _ i _ _ _ _=>n-(intOf i).toNat)
 case atStart=>exact ⟨0,by omega,rfl,by rw [List.take_zero,bT_];rfl,hd_ ⟨rfl,fun j u hj hjk=>by omega⟩,hd_ rfl,hd_ (Below.refl _ _)⟩
 case round =>
  obtain ⟨k,hk,rfl,rfl,HA,HFP,HB⟩:=hrel
  by_cases hlt:k<n
  ·obtain ⟨b,off,Ak,ck,u,rfl,hb,hu,hc,hN,hS⟩:=HPR.out.one HB.out (k:=k) (by rw [HN.out];exact hlt)
   have hut:=HT.out u (List.mem_of_getElem? hu)
   have HONE:=hd_ (z4_ u W Ak ck wr hN hS hut HW.out)
   unfold nZ_ at HONE
   obtain ⟨e1,e2⟩:=pV_ W hu HA.out.1
   obtain ⟨u1,u2,u3⟩:=aaN_ W hu HFP.out
   have HU1:=hd_ u1
   have HU2:=hd_ u2
   have HU3:=hd_ u3
   obtain ⟨fw,hfw⟩:∃ b,j5_ u=b:=⟨_,rfl⟩
   rw [hfw] at HONE HU1 HU2 HU3
   clear u1 u2 u3
   by_cases hq:cH_ u W=0
   ·have hdc:aW_ u 0≠9->∃ x,Doc (e6_ u) x:=fun h9=>iC_ hut h9 (by have:=(f4_ hq).2.2 h9;omega)
    rw [if_pos hq,hq] at HONE
    have hsm:=(l7_ hq hdc).small
    have HST:=hd_ (jB_ W hu)
    have HA2:Hid (bN_ W (p.drop (k+1))=bN_ W p/\∀ j v,p[j]?=some v->j<k+1->cH_ v W=0):=hd_ ⟨e2 hq,fun j v hj hjk=>by
     by_cases hjk2:j=k
     ·subst hjk2;rw [hu] at hj;cases hj;exact hq
     ·exact HA.out.2 j v hj (by omega)⟩
    have hks:=HSZ.out k (by rw [HN.out];exact hk) HA.out.2
    have hk20:1500000*k<=30000000:=by omega
    generalize bT_ W (p.take k)=Q at *
    generalize g3_ u W=X at *
    have HU4:=hd_ (fun h=>HU3.out h hq)
    clear hN hS hu hut e1 e2 hq hdc HA hfw HU2 HU3
    go_upto_region 6 with (go_at_call 37;refine HONE.out.mono ?_;rintro e w3 ⟨hB3,hr3⟩;have HB3:=hd_ (HB.out.trans (hB3.mono HB.out.size));clear hB3;rcases hr3 with ⟨hf3,rfl⟩|⟨hf3,T3,rfl⟩)
    ·go_wp2
     go_roundw
     case measure=>simp [intOf];omega
     case rel=>exact ⟨k+1,by omega,by go_num,by rw [HST.out],HA2,hd_ (HU4.out hf3),HB3⟩
    exact afN_
   ·have hfe:=e1 hq
    rw [if_neg hq] at HONE
    have hz:=HZ1.out (by rw [hfe];exact hq)
    subst hz
    have HFE:=hd_ hfe
    have d1:(cH_ u W==0)=false:=beq_eq_false_iff_ne.2 hq
    have d2:decide (cH_ u W=0)=false:=decide_eq_false hq
    generalize cH_ u W=q at *
    have HU4:=hd_ (fun h=>HU2.out h hq)
    clear hN hS hu hut e1 e2 HA hfe hfw HU2 HU3
    go_upto_region 6 with (go_at_call 37;refine HONE.out.mono ?_;rintro e w3 ⟨hB3,hr3⟩;have HB3:=hd_ (HB.out.trans (hB3.mono HB.out.size));clear hB3;rcases hr3 with ⟨hf3,rfl⟩|⟨hf3,T3,rfl⟩)
    ·go_wp2
     refine bodyPost_ret (v:=.tuple #[.string ⟨#[]⟩,.int .i64 q,.bool true]) (by simp [results,Tryz.results38,go_sem]) rfl ?_
     exact ⟨HB3.out,.inl ⟨HU4.out hf3,by rw [HFE.out]⟩⟩
    exact afN_
  ·have hkp:k=p.length:=by rw [HN.out];omega
   have h0:=HEND.out (by have:=HA.out.1;rwa [hkp] at this)
   have hz:=HZ0.out h0
   subst hz
   rw [HALL.out k (by omega)]
   have HFE:=hd_ h0
   have HFZ:Hid (iD_ W p=true):=hd_ (by rw [← HFP.out,hkp,List.drop_length];rfl)
   obtain ⟨TT,hTT⟩:∃ t,bT_ W p=t:=⟨_,rfl⟩
   rw [hTT]
   have HTT:=hd_ hTT
   clear hTT HALL HEND HA h0 HZ0 HZ1
   go_wp2
   refine bodyPost_ret (v:=.tuple #[.string TT,.int .i64 0,.bool true]) (by simp [results,Tryz.results38,go_sem]) rfl ?_
   exact ⟨HB.out,.inl ⟨HFZ.out,by rw [HFE.out,HTT.out]⟩⟩
theorem wL_ (p:List (List Nd)) (W:Int) (n:Nat) (hn:p.length=n) (P:Option Addr) (cp:Nat) (w:World) (hp:Prg w w.heap.size P p) (hT:∀ u ∈ p,aY_ u=0) (h20:n<=20) (hw:c9_ W=true) :
  Calls Tryz.prog 38 #[.slice P n cp,.int .i64 W] w (tR_ p W w) :=
 (uQ_ p W n hn P cp w hp hT h20 hw).mono fun _ _ ⟨h1,h2⟩=>⟨h1,h2.imp (fun h=>h.2) (fun h=>h.2)⟩
theorem yV_ {P:Prop} (h:P:=by
 go_enter Tryz.func36,Tryz.ntmps36
 go_wp2
 go_ret
 exact ⟨by first|rfl|(simp;done)|(simp;omega),rfl⟩):P:=h
theorem abY_ (W:Int) (w:World):Calls Tryz.prog 36 #[.int .i64 W] w fun e w'=>e=.returned (.bool (c9_ W))/\w=w':=by
 by_cases h1:10<=W
 ·by_cases h2:W<=100
  ·have hr:c9_ W=true:=by simp [c9_,h1,h2]
   rw [hr]
   exact yV_
  ·have hr:c9_ W=false:=by simp [c9_,h2]
   rw [hr]
   exact yV_
 ·have hr:c9_ W=false:=by simp [c9_,h1]
  rw [hr]
  have h3:decide (W≥10)=false:=decide_eq_false h1
  exact yV_
theorem oN_ {s:ByteArray} {k:Nat} {l:List (List Nd)} (h:aH_ s=(0,k,l)):k=0:=by
 unfold aH_ at h
 split at h
 ·rename_i h1;simp only [Prod.mk.injEq] at h;omega
 ·split at h
  ·simp only [Prod.mk.injEq] at h;omega
  ·split at h
   ·simp only [Prod.mk.injEq] at h;exact h.2.1.symm
   ·simp only [Prod.mk.injEq] at h;omega
theorem sE_ {s:ByteArray} {f:Int} {k n:Nat} {l:List (List Nd)} (h:aH_ s=(f,k,l)) (hn:l.length=n) (w:World) (hs:s.size<=maxLen):Calls Tryz.prog 26 #[.string s] w fun e w'=>∃ A c,e=.returned (.tuple #[.slice A n c,.int .i64 (k:Nat),.int .i64 f])/\dH_ w.heap.size w' A l/\Below w.heap.size w w':=by
 have:=wS_ s w hs
 unfold fK_ at this
 rw [h] at this
 subst hn
 exact this
end Go.Proofs.YtddfdmopaeghnacGreatDoor
namespace Go.Proofs.YtddfdmopaeghnacGreatDoor
def fZ_:Nat->List UInt8->List UInt8->Int
 | _,[],[]=>-1
 | n,[],c::_=>if c=10 then (n+1:Nat) else n
 | n,c::_,[]=>if c=10 then (n+1:Nat) else n
 | n,a::x,b::y=>if a=b then fZ_ (if a=10 then n+1 else n) x y else n
def fC_:List UInt8->List (List UInt8)
 | []=>[[]]
 | a::r=>if a=10 then []::fC_ r else match fC_ r with
  | []=>[[a]]
  | x::y=>(a::x)::y
theorem o3_ (l:List UInt8):∃ x y,fC_ l=x::y:=by
 cases l with
 | nil=>exact ⟨_,_,rfl⟩
 | cons a r =>
  rw [fC_]
  split
  ·exact ⟨_,_,rfl⟩
  ·split
   ·exact ⟨_,_,rfl⟩
   ·exact ⟨_,_,rfl⟩
theorem iB_ (r:List UInt8):fC_ (10::r)=[]::fC_ r:=by rw [fC_,if_pos rfl]
theorem gF_ {a:UInt8} {r x:List UInt8} {y:List (List UInt8)} (h:a≠10) (e:fC_ r=x::y):fC_ (a::r)=(a::x)::y:=by rw [fC_,if_neg h,e]
def dL {α:Type} [DecidableEq α]:Nat->List α->List α->Nat
 | n,x::a,y::b=>if x=y then dL (n+1) a b else n
 | n,_,_=>n
theorem kZ_ {α:Type} [DecidableEq α] (n:Nat) (x:α) (a b:List α):dL n (x::a) (x::b)=dL (n+1) a b:=by rw [dL,if_pos rfl]
theorem lL_ {α:Type} [DecidableEq α] {n:Nat} {x y:α} (a b:List α) (h:x≠y):dL n (x::a) (y::b)=n:=by rw [dL,if_neg h]
theorem pR_ {α:Type} [DecidableEq α] (n:Nat) (b:List α):dL n [] b=n:=by rw [dL];intros;contradiction
theorem o4_ {α:Type} [DecidableEq α] (n:Nat) (a:List α):dL n a []=n:=by rw [dL];intros;contradiction
theorem xB_:∀ (a b:List UInt8) (n:Nat),fZ_ n a b=if a=b then -1 else (dL n (fC_ a) (fC_ b):Int):=by
 intro a
 induction a with
 | nil =>
  intro b n
  cases b with
  | nil=>rfl
  | cons c y =>
   rw [fZ_,if_neg (show ¬ ([]:List UInt8)=c::y by simp)]
   by_cases h:c=10
   ·subst h
    rw [if_pos rfl,iB_,show fC_ []=[[]] from rfl,kZ_,pR_]
   ·obtain ⟨u,v,e⟩:=o3_ y
    rw [if_neg h,gF_ h e,show fC_ []=[[]] from rfl,lL_ _ _ (by simp)]
 | cons a x ih =>
  intro b n
  cases b with
  | nil =>
   rw [fZ_,if_neg (show ¬ a::x=[] by simp)]
   by_cases h:a=10
   ·subst h
    rw [if_pos rfl,iB_,show fC_ []=[[]] from rfl,kZ_,o4_]
   ·obtain ⟨u,v,e⟩:=o3_ x
    rw [if_neg h,gF_ h e,show fC_ []=[[]] from rfl,lL_ _ _ (by simp)]
  | cons b y =>
   obtain ⟨u,v,e⟩:=o3_ x
   obtain ⟨u',v',e'⟩:=o3_ y
   rw [fZ_]
   by_cases hab:a=b
   ·subst hab
    rw [if_pos rfl,ih]
    simp only [List.cons.injEq,true_and]
    by_cases h:a=10
    ·subst h
     rw [if_pos rfl,iB_,iB_,kZ_]
    ·rw [if_neg h,gF_ h e,gF_ h e',e,e']
     by_cases hu:u=u'
     ·subst hu
      rw [kZ_,kZ_]
     ·rw [lL_ _ _ hu,lL_ _ _ (by simpa using hu)]
   ·rw [if_neg hab,if_neg (by simp [hab])]
    by_cases h:a=10
    ·subst h
     rw [iB_,gF_ (fun hb=>hab hb.symm) e',lL_ _ _ (by simp)]
    ·by_cases h':b=10
     ·subst h'
      rw [iB_,gF_ h e,lL_ _ _ (by simp)]
     ·rw [gF_ h e,gF_ h' e',lL_ _ _ (by simp [hab])]
theorem v0_ (l:List UInt8) (i:Nat):Lib.occAt l [10] i=(l[i]?==some 10):=by
 unfold Lib.occAt
 cases hd:l.drop i with
 | nil =>
  have:l.length<=i:=by have:=congrArg List.length hd;rw [List.length_drop,List.length_nil] at this;omega
  rw [List.getElem?_eq_none this];rfl
 | cons a r =>
  have:l[i]?=some a:=by
   have h:=congrArg (fun x=>x[0]?) hd
   simp only [List.getElem?_drop,Nat.add_zero,List.getElem?_cons_zero] at h
   exact h
  rw [this]
  simp [List.isPrefixOf]
  rw [Bool.eq_iff_iff,beq_iff_eq,beq_iff_eq];exact eq_comm
theorem uA_ {l:List UInt8} (h:(10:UInt8) ∉ l):fC_ l=[l]:=by
 induction l with
 | nil=>rfl
 | cons a r ih =>
  simp only [List.mem_cons,not_or] at h
  exact gF_ (fun e=>h.1 e.symm) (ih h.2)
theorem ad6_ {a b:List UInt8} (h:(10:UInt8) ∉ a):fC_ (a++10::b)=a::fC_ b:=by
 induction a with
 | nil=>exact iB_ b
 | cons c r ih =>
  simp only [List.mem_cons,not_or] at h
  exact gF_ (fun e=>h.1 e.symm) (ih h.2)
theorem zG_:∀ (k:Nat) (l:List UInt8),Lib.count l [10]<=k->Lib.splitK [10] 0 k l=fC_ l:=by
 have hnone:∀ l:List UInt8,(10:UInt8) ∉ l->Lib.index l [10]=-1:=fun l h=>Lib.index_none (fun j hj=>by
  rw [v0_]
  cases e:l[j]? with
  | none=>rfl
  | some c =>
   have:c≠10:=fun hc=>h (hc▸List.mem_of_getElem? e)
   simpa using this)
 have hhit:∀ a b:List UInt8,(10:UInt8) ∉ a->Lib.index (a++10::b) [10]=(a.length:Nat):=fun a b h=>Lib.index_hit (fun j hj=>by
  rw [v0_,List.getElem?_append_left hj,List.getElem?_eq_getElem hj]
  have:a[j]≠10:=fun hc=>h (hc▸List.getElem_mem hj)
  simpa using this) (by simp) (by rw [v0_,List.getElem?_append_right (Nat.le_refl _)];simp)
 intro k
 induction k with
 | zero =>
  intro l h
  have hn:(10:UInt8) ∉ l:=fun hm=>by
   obtain ⟨a,b,e,hna⟩:=List.eq_append_cons_of_mem hm
   have hx:=hhit a b hna
   rw [← e] at hx
   have:=Lib.count_hit (by decide) hx
   omega
  rw [uA_ hn];rfl
 | succ k ih =>
  intro l h
  by_cases hm:(10:UInt8) ∈ l
  ·obtain ⟨a,b,e,hna⟩:=List.eq_append_cons_of_mem hm
   have hx:=hhit a b hna
   rw [← e] at hx
   have hc:=Lib.count_hit (by decide) hx
   have hd:l.drop (a.length+1)=b:=by rw [e,← List.drop_drop,List.drop_left];rfl
   have ht:l.take a.length=a:=by rw [e,List.take_left]
   rw [Lib.splitK,hx,if_neg (by simp)]
   simp only [Int.toNat_natCast,Nat.add_zero,List.length_cons,List.length_nil,Nat.zero_add]
   simp only [List.length_cons,List.length_nil,Nat.zero_add,hd] at hc
   rw [hd,ht,ih b (by omega),e,ad6_ hna]
  ·rw [Lib.splitK,hnone l hm,if_pos (by simp),uA_ hm]
end Go.Proofs.YtddfdmopaeghnacGreatDoor
namespace Go.Proofs.YtddfdmopaeghnacGreatDoor
open Go.RowKit
theorem k2_ {s:ByteArray} {k:Nat} (h:k<s.size):s.data.toList.drop k=s[k]::s.data.toList.drop (k+1):=by
 have hl:k<s.data.toList.length:=by simpa using h
 rw [List.drop_eq_getElem_cons hl];rfl
theorem lO_ {s:ByteArray} {k:Nat} (h:¬ k<s.size):s.data.toList.drop k=[]:=List.drop_eq_nil_of_le (by simp;omega)
theorem gP_ {x y:UInt8} {b:Bool} (h:(x==y)=b):((x.toNat:Int)==(y.toNat:Int))=b:=by
 rw [← h,Bool.eq_iff_iff,beq_iff_eq,beq_iff_eq]
 constructor
 ·intro e;exact UInt8.toNat_inj.1 (by omega)
 ·intro e;rw [e]
theorem yU_ {P:Prop} (h:P:=by
 go_upto_region 5 with (fail)
 go_quiet (fail)
 go_wp2
 go_ret
 rw [← HE2.out]
 exact ⟨rfl,by first|exact HB.out|exact below_drewN HB.out _|exact below_drewN (below_drewN HB.out _) _⟩):P:=h
theorem afM_ {P:Prop} (h:P:=by
 go_upto_region 5 with (fail)
 go_quiet (fail)
 go_wp2
 go_ret
 rw [← HE2.out]
 exact ⟨by first|rfl|(congr 1;go_num),by first|exact HB.out|exact below_drewN HB.out _|exact below_drewN (below_drewN HB.out _) _⟩):P:=h
theorem tB_ (a b:ByteArray) (w:World) (ha:a.size<=maxLen) (hb:b.size<=maxLen) :
  Calls Tryz.prog 39 #[.string a,.string b] w (Ret w (.int .i64 (fZ_ 0 a.data.toList b.data.toList))):=by
 unfold maxLen at ha hb
 obtain ⟨R,hR⟩:∃ R,fZ_ 0 a.data.toList b.data.toList=R:=⟨_,rfl⟩
 rw [hR]
 have HR:=hd_ hR
 clear hR
 go_enter Tryz.func39,Tryz.ntmps39
 go_wp2
 go_loopw [5,6] (fun l i wr=>∃ k n:Nat,i=.int .i64 (k:Nat)/\l=.int .i64 (n:Nat)/\n<=k/\k<=a.size/\k<=b.size/\Hid (fZ_ n (a.data.toList.drop k) (b.data.toList.drop k)=R)/\Hid (Below w.heap.size w wr)) (fun _ i _=>a.size-(intOf i).toNat)
 case atStart=>exact ⟨0,0,rfl,rfl,Nat.le_refl _,Nat.zero_le _,Nat.zero_le _,HR,hd_ (Below.refl _ _)⟩
 case round =>
  obtain ⟨k,n,rfl,rfl,hn,hka,hkb,HE,HB⟩:=hrel
  clear HR
  by_cases h1:k<a.size
  ·have p1:decide ((k:Int)<(a.size:Int))=true:=decide_eq_true (by omega)
   have g1:decide ((a.size:Int)<=(k:Int))=false:=decide_eq_false (by omega);have m1:decide (a.size<=k)=false:=decide_eq_false (by omega)
   by_cases h2:k<b.size
   ·have g2:decide ((b.size:Int)<=(k:Int))=false:=decide_eq_false (by omega);have m2:decide (b.size<=k)=false:=decide_eq_false (by omega)
    have he:=HE.out
    rw [k2_ h1,k2_ h2,fZ_] at he
    cases hq:(a[k]==b[k]) with
    | true =>
     have hq':a[k]=b[k]:=by simpa using hq
     have z1:=gP_ hq
     have z4:((a[k].toNat:Int) != (b[k].toNat:Int))=false:=by rw [bne,z1];rfl
     rw [if_pos hq'] at he
     cases hl:(a[k]==10) with
     | true =>
      have z2:((a[k].toNat:Int)==10)=true:=gP_ hl
      have z3:((b[k].toNat:Int)==10)=true:=by rw [hq'] at z2;exact z2
      rw [if_pos (by simpa using hl)] at he
      have HE2:=hd_ he
      clear he HE hq hq' hl
      go_upto_region 5 with (fail)
      go_quiet (fail)
      go_wp2
      go_roundw
      case measure=>exact iI_
      case rel=>exact ⟨k+1,n+1,by first|go_num|rfl,by first|go_num|rfl,by omega,by omega,by omega,HE2,hd_ (by first|exact HB.out|exact below_drewN HB.out _|exact below_drewN (below_drewN HB.out _) _)⟩
     | false =>
      have z2:((a[k].toNat:Int)==10)=false:=gP_ hl
      have z3:((b[k].toNat:Int)==10)=false:=by rw [hq'] at z2;exact z2
      rw [if_neg (by simpa using hl)] at he
      have HE2:=hd_ he
      clear he HE hq hq' hl
      go_upto_region 5 with (fail)
      go_quiet (fail)
      go_wp2
      go_roundw
      case measure=>exact iI_
      case rel=>exact ⟨k+1,n,by first|go_num|rfl,rfl,by omega,by omega,by omega,HE2,hd_ (by first|exact HB.out|exact below_drewN HB.out _|exact below_drewN (below_drewN HB.out _) _)⟩
    | false =>
     have z1:=gP_ hq
     have z4:((a[k].toNat:Int) != (b[k].toNat:Int))=true:=by rw [bne,z1];rfl
     rw [if_neg (by simpa using hq)] at he
     have HE2:=hd_ he
     clear he HE hq
     exact yU_
   ·have g2:decide ((b.size:Int)<=(k:Int))=true:=decide_eq_true (by omega);have m2:decide (b.size<=k)=true:=decide_eq_true (by omega)
    have he:=HE.out
    rw [k2_ h1,lO_ h2,fZ_] at he
    cases hl:(a[k]==10) with
    | true =>
     have z2:((a[k].toNat:Int)==10)=true:=gP_ hl
     rw [if_pos (by simpa using hl)] at he
     have HE2:=hd_ he
     clear he HE hl
     exact afM_
    | false =>
     have z2:((a[k].toNat:Int)==10)=false:=gP_ hl
     rw [if_neg (by simpa using hl)] at he
     have HE2:=hd_ he
     clear he HE hl
     exact yU_
  ·have p1:decide ((k:Int)<(a.size:Int))=false:=decide_eq_false (by omega)
   have g1:decide ((a.size:Int)<=(k:Int))=true:=decide_eq_true (by omega);have m1:decide (a.size<=k)=true:=decide_eq_true (by omega)
   have hke:k=a.size:=by omega
   by_cases h2:k<b.size
   ·have p2:decide ((k:Int)<(b.size:Int))=true:=decide_eq_true (by omega)
    have he:=HE.out
    rw [lO_ h1,k2_ h2,fZ_] at he
    cases hl:(b[k]==10) with
    | true =>
     have z2:((b[k].toNat:Int)==10)=true:=gP_ hl
     rw [if_pos (by simpa using hl)] at he
     have HE2:=hd_ he
     clear he HE hl hke
     exact afM_
    | false =>
     have z2:((b[k].toNat:Int)==10)=false:=gP_ hl
     rw [if_neg (by simpa using hl)] at he
     have HE2:=hd_ he
     have g2:decide ((b.size:Int)<=(k:Int))=false:=decide_eq_false (by omega);have m2:decide (b.size<=k)=false:=decide_eq_false (by omega)
     clear he HE hl hke
     exact yU_
   ·have p2:decide ((k:Int)<(b.size:Int))=false:=decide_eq_false (by omega)
    have he:=HE.out
    rw [lO_ h1,lO_ h2,fZ_] at he
    have HE2:=hd_ he
    clear he HE hke
    go_wp2
    go_ret
    rw [← HE2.out]
    exact ⟨rfl,HB.out⟩
theorem yF_ {a b:ByteArray} (h:a≠b):fZ_ 0 a.data.toList b.data.toList=(dL 0 (Lib.splitB ⟨#[10]⟩ 0 (Lib.countB a ⟨#[10]⟩) a) (Lib.splitB ⟨#[10]⟩ 0 (Lib.countB b ⟨#[10]⟩) b):Nat):=by
 have hne:a.data.toList≠b.data.toList:=fun e=>h (ByteArray.ext (Array.toList_inj.1 e))
 have hs:∀ s:ByteArray,(Lib.splitB ⟨#[10]⟩ 0 (Lib.countB s ⟨#[10]⟩) s).map (·.data.toList)=fC_ s.data.toList:=fun s=>by
  rw [Lib.splitB_data]
  exact zG_ _ _ (Nat.le_refl _)
 have hd:∀ (x y:List ByteArray) (n:Nat),dL n (x.map (·.data.toList)) (y.map (·.data.toList))=dL n x y:=by
  intro x
  induction x with
  | nil=>intro y n;rw [List.map_nil,pR_,pR_]
  | cons u x ih =>
   intro y n
   cases y with
   | nil=>rw [List.map_nil,o4_,o4_]
   | cons v y =>
    rw [List.map_cons,List.map_cons,dL,dL,ih]
    by_cases e:u=v
    ·rw [if_pos e,if_pos (by rw [e])]
    ·rw [if_neg e,if_neg (fun h=>e (ByteArray.ext (Array.toList_inj.1 h)))]
 rw [xB_,if_neg hne,← hs a,← hs b,hd]
theorem ag3_ {X Y:List ByteArray} {k R:Nat} (h:dL k (X.drop k) (Y.drop k)=R) (h1:k<X.length) (h2:k<Y.length):(X[k]=Y[k]->dL (k+1) (X.drop (k+1)) (Y.drop (k+1))=R)/\(X[k]≠Y[k]->k=R):=by
 rw [List.drop_eq_getElem_cons h1,List.drop_eq_getElem_cons h2,dL] at h
 constructor
 ·intro e;rwa [if_pos e] at h
 ·intro e;rwa [if_neg e] at h
theorem ai2_ {X Y:List ByteArray} {k R:Nat} (h:dL k (X.drop k) (Y.drop k)=R) (h1:¬ (k<X.length/\k<Y.length)):k=R:=by
 by_cases h2:k<X.length
 ·rw [show Y.drop k=[] from List.drop_eq_nil_of_le (by omega),o4_] at h;exact h
 ·rw [show X.drop k=[] from List.drop_eq_nil_of_le (by omega),pR_] at h;exact h
theorem ac6_ {w:World} (s:ByteArray) (hs:s.size<=4000000000):Txs (w.alloc (.cells ((Lib.splitB ⟨#[10]⟩ 0 (Lib.countB s ⟨#[10]⟩) s).map Value.string).toArray 9)) (w.alloc (.cells ((Lib.splitB ⟨#[10]⟩ 0 (Lib.countB s ⟨#[10]⟩) s).map Value.string).toArray 9)).heap.size (some ⟨w.heap.size,0,none⟩) (Lib.splitB ⟨#[10]⟩ 0 (Lib.countB s ⟨#[10]⟩) s):=by
 have hl:(Lib.splitB ⟨#[10]⟩ 0 (Lib.countB s ⟨#[10]⟩) s).length=Lib.countB s ⟨#[10]⟩+1:=Lib.splitB_all ⟨#[10]⟩ (by decide) 0 _ s rfl
 have hle:Lib.countB s ⟨#[10]⟩<=s.size:=Lib.countB_le ⟨#[10]⟩ (by decide) s.size s (Nat.le_refl _)
 have hz:∀ x ∈ Lib.splitB ⟨#[10]⟩ 0 (Lib.countB s ⟨#[10]⟩) s,x.size<=s.size:=h7_ ⟨#[10]⟩ 0 _ s
 have h:=Sl.lit (sz:=1) w ((Lib.splitB ⟨#[10]⟩ 0 (Lib.countB s ⟨#[10]⟩) s).map Value.string).toArray 9 (Lib.splitB ⟨#[10]⟩ 0 (Lib.countB s ⟨#[10]⟩) s).length (by simp)
 exact ⟨by simpa using h,by simp only [maxLen];omega,fun x hx=>by have:=hz x hx;simp only [maxLen];omega⟩
theorem vJ_ (s:ByteArray) (hs:s.size<=4000000000) {n:Nat} (hn:(Lib.splitB ⟨#[10]⟩ 0 (Lib.countB s ⟨#[10]⟩) s).length=n) (w:World) (hm:cU_ w):Calls Tryz.prog 130 #[.string s,.string ⟨#[10]⟩] w fun e w'=>∃ A c,e=.returned (.slice A n c)/\Txs w' w'.heap.size A (Lib.splitB ⟨#[10]⟩ 0 (Lib.countB s ⟨#[10]⟩) s)/\Below w.heap.size w w':=by
 subst hn
 obtain ⟨_,m,hm⟩:=hm
 have hl:(Lib.splitB ⟨#[10]⟩ 0 (Lib.countB s ⟨#[10]⟩) s).length=Lib.countB s ⟨#[10]⟩+1:=Lib.splitB_all ⟨#[10]⟩ (by decide) 0 _ s rfl
 refine (Tryz.strings_Split s ⟨#[10]⟩ m w (by omega) hm (by decide)).mono ?_
 rintro e w' ⟨rfl,rfl⟩
 exact ⟨_,_,by rw [hl],ac6_ s hs,(Below.refl _ _).alloc (Nat.le_refl _) _⟩
theorem u7_ {x y:ByteArray} (h:x≠y):(x.toList==y.toList)=false:=by
 rw [beq_eq_false_iff_ne,ByteArray.toList_eq,ByteArray.toList_eq]
 exact fun e=>h (ByteArray.ext (Array.toList_inj.1 e))
theorem wD_ (a b:ByteArray) (w:World) (ha:a.size<=4000000000) (hb:b.size<=4000000000) (hm:cU_ w) :
  Calls Tryz.prog 77 #[.string a,.string b] w (Ret w (.int .i64 (fZ_ 0 a.data.toList b.data.toList))):=by
 by_cases h:a=b
 ·subst h
  have hb1:(a.toList==a.toList)=true:=by simp
  rw [xB_,if_pos rfl]
  go_enter Tryz.func77,Tryz.ntmps77
  go_wp2
  go_ret
  exact ⟨rfl,Below.refl _ _⟩
 ·have hb1:=u7_ h
  rw [yF_ h]
  obtain ⟨n,hn⟩:∃ n,(Lib.splitB ⟨#[10]⟩ 0 (Lib.countB a ⟨#[10]⟩) a).length=n:=⟨_,rfl⟩
  obtain ⟨n2,hn2⟩:∃ n,(Lib.splitB ⟨#[10]⟩ 0 (Lib.countB b ⟨#[10]⟩) b).length=n:=⟨_,rfl⟩
  have HSA:=hd_ (fun w' h=>vJ_ a ha hn w' h)
  have HSB:=hd_ (fun w' h=>vJ_ b hb hn2 w' h)
  have HM:=hd_ hm
  generalize Lib.splitB ⟨#[10]⟩ 0 (Lib.countB a ⟨#[10]⟩) a=X at *
  generalize Lib.splitB ⟨#[10]⟩ 0 (Lib.countB b ⟨#[10]⟩) b=Y at *
  obtain ⟨R,hR⟩:∃ R,dL 0 X Y=R:=⟨_,rfl⟩
  have HR:=hd_ hR
  rw [hR]
  obtain ⟨N,hN⟩:∃ N,min n n2=N:=⟨_,rfl⟩
  clear hm h hR
  go_enter Tryz.func77,Tryz.ntmps77
  go_upto_region 4 with (first
   | (go_at_call 130;(fail_if_success have z:=T1);refine (HSA.out _ HM.out).mono ?_;rintro e w1 ⟨A1,c1,rfl,ht1,hB1⟩;have HX:=hd_ ht1;have HB:=hd_ hB1;have T1:=hd_ True.intro;clear ht1 hB1)
   | (go_at_call 130;refine (HSB.out _ (HM.out.past HB.out)).mono ?_;rintro e w2 ⟨A2,c2,rfl,ht2,hB2⟩;have HX:=hd_ (HX.out.past hB2);have HY:=hd_ ht2;have HB:=hd_ (HB.out.trans (hB2.mono HB.out.size));clear ht2 hB2))
  go_wp2
  go_loopw [7,20] (fun _ i wr=>∃ k:Nat,i=.int .i64 (k:Nat)/\k<=n/\k<=n2/\Hid (dL k (X.drop k) (Y.drop k)=R)/\Hid (Txs wr wr.heap.size A1 X)/\Hid (Txs wr wr.heap.size A2 Y)/\Hid (Below w.heap.size w wr)) (fun _ i _=>n-(intOf i).toNat)
  case atStart=>exact ⟨0,rfl,Nat.zero_le _,Nat.zero_le _,HR,HX,HY,HB⟩
  case round =>
   clear HX HY HB HR
   obtain ⟨k,rfl,hk1,hk2,HR,HX,HY,HB⟩:=hrel
   by_cases hlt:k<n/\k<n2
   ·obtain ⟨h1,h2⟩:=hlt
    have hmx:=HX.out.2.1
    unfold maxLen at hmx
    have d1:decide ((k:Int)<min (n:Int) (n2:Int))=true:=decide_eq_true (by omega)
    have h1x:k<X.length:=by omega
    have h2x:k<Y.length:=by omega
    have n1:decide (n<=k)=false:=decide_eq_false (by omega)
    have m1:decide (n2<=k)=false:=decide_eq_false (by omega)
    have n0:decide ((k:Int)<0)=false:=decide_eq_false (by omega)
    obtain ⟨b6,o6,u6,rfl,hb6,hu6,hc6⟩:=HX.out.1.one (k:=k) h1x
    obtain ⟨b7,o7,u7,rfl,hb7,hu7,hc7⟩:=HY.out.1.one (k:=k) h2x
    have hu:u6=.string X[k]:=by rw [List.getElem?_map,List.getElem?_eq_getElem h1x] at hu6;simpa using hu6.symm
    have hv:u7=.string Y[k]:=by rw [List.getElem?_map,List.getElem?_eq_getElem h2x] at hu7;simpa using hu7.symm
    subst hu hv
    obtain ⟨g1,g2⟩:=ag3_ HR.out h1x h2x
    clear hu6 hu7
    by_cases hq:X[k]=Y[k]
    ·have e1:(X[k].toList==Y[k].toList)=true:=by rw [hq];simp
     have e2:(X[k].toList != Y[k].toList)=false:=by rw [bne,e1];rfl
     have HR2:=hd_ (g1 hq)
     clear g1 g2 hq HR
     generalize X[k]=x at *
     generalize Y[k]=y at *
     go_upto_region 7 with (fail)
     go_quiet (fail)
     go_wp2
     go_roundw
     case measure=>exact iI_
     case rel=>exact ⟨k+1,by first|go_num|rfl,by omega,by omega,HR2,HX,HY,hd_ (by first|exact HB.out|exact below_drewN HB.out _|exact below_drewN (below_drewN HB.out _) _)⟩
    ·have e1:=u7_ hq
     have e2:(X[k].toList != Y[k].toList)=true:=by rw [bne,e1];rfl
     have HR2:=hd_ (g2 hq)
     clear g1 g2 hq HR
     generalize X[k]=x at *
     generalize Y[k]=y at *
     go_upto_region 7 with (fail)
     go_quiet (fail)
     go_wp2
     go_ret
     rw [← HR2.out]
     exact ⟨rfl,by first|exact HB.out|exact below_drewN HB.out _|exact below_drewN (below_drewN HB.out _) _⟩
   ·have d1:decide ((k:Int)<min (n:Int) (n2:Int))=false:=decide_eq_false (by omega)
    have HR2:=hd_ (ai2_ HR.out (by omega))
    have hmn:min (n:Int) (n2:Int)=(k:Nat):=by omega
    go_wp2
    go_ret
    rw [← HR2.out]
    exact ⟨by first|rfl|rw [hmn],HB.out⟩
theorem yK_ {p:List (List Nd)} {W:Int} (hT:∀ u ∈ p,aY_ u=0) (h20:p.length<=20) (h:bN_ W p=0):(bT_ W p).size<=30000000:=by
 have key:∀ q:List (List Nd),(∀ u ∈ q,aY_ u=0)->bN_ W q=0->(bT_ W q).size<=1500000*q.length:=by
  intro q
  induction q with
  | nil=>intro _ _;simp [bT_]
  | cons u r ih =>
   intro hq he
   rw [bN_] at he
   by_cases h1:cH_ u W≠0
   ·rw [if_pos h1] at he;exact absurd he h1
   ·rw [if_neg h1] at he
    have h0:cH_ u W=0:=Decidable.not_not.1 h1
    have ht:=hq u (by simp)
    have h2:=(l7_ h0 (fun h9=>iC_ ht h9 (by have:=(f4_ h0).2.2 h9;omega))).small
    have h3:=ih (fun v hv=>hq v (by simp [hv])) he
    rw [bT_,ByteArray.size_append,List.length_cons]
    omega
 have:=key p hT h
 omega
theorem abO_ {s:ByteArray} {k:Nat} {l:List (List Nd)} (h:aH_ s=(0,k,l)):s.size<=60000:=by
 by_cases hE:(cP_ s).1=0
 ·exact (i0_ hE).1
 ·rw [jG_ hE] at h
  simp only [Prod.mk.injEq] at h
  exact absurd h.1 hE
theorem mX_ {s:ByteArray} {W f:Int} {k:Nat} (h:fO_ s W=(f,k,.empty)) (hf:f≠0) (w:World) (hs:s.size<=maxLen) (hm:cU_ w) (hp:fB_ w) :
  Calls Tryz.prog 40 #[.string s,.int .i64 W] w (Ret w (.tuple #[.int .i64 0,.int .i64 (k:Nat),.iface 43 (.int .i64 f)])):=by
 have hF:=xD_ s W w hs hm hp
 unfold tI_ at hF
 rw [h,← bQ_ hf] at hF
 have HF:=hd_ hF
 clear h hs hm hp hF
 go_enter Tryz.func40,Tryz.ntmps40
 go_wp2_with (go_at_call 30;refine HF.out.mono ?_;rintro e w1 ⟨rfl,hB1⟩;have HB1:=hd_ hB1;clear hB1)
 go_ret3
 exact ⟨rfl,HB1.out⟩
theorem ad2_ {s T:ByteArray} {W:Int} (h:fO_ s W=(0,0,T)) (h60:s.size<=60000) (hT:T.size<=4000000000) (w:World) (hs:s.size<=maxLen) (hm:cU_ w) (hp:fB_ w) :
  Calls Tryz.prog 40 #[.string s,.int .i64 W] w (Ret w (.tuple #[.int .i64 (fZ_ 0 s.data.toList T.data.toList),.int .i64 (0:Nat),.nilIface])):=by
 have hF:=xD_ s W w hs hm hp
 unfold tI_ at hF
 rw [h,← dN_ rfl] at hF
 have HF:=hd_ hF
 have HD:=hd_ (fun w' (hb:Below w.heap.size w w')=>wD_ s T w' (by omega) hT (hm.past hb))
 generalize fZ_ 0 s.data.toList T.data.toList=D at *
 clear h hs hm hp hF
 go_enter Tryz.func40,Tryz.ntmps40
 go_wp2_with (first
  | (go_at_call 30;refine HF.out.mono ?_;rintro e w1 ⟨rfl,hB1⟩;have HB1:=hd_ hB1;clear hB1)
  | (go_at_call 77;refine (HD.out _ HB1.out).mono ?_;rintro e w2 ⟨rfl,hB2⟩;have HB2:=hd_ (HB1.out.trans (hB2.mono HB1.out.size));clear hB2))
 go_ret3
 exact ⟨rfl,HB2.out⟩
theorem afK_ {P:Prop} (h:P:=by
 go_enter Tryz.func12,Tryz.ntmps12
 go_upto_region 11 with (first
  | (go_at_call 26;(fail_if_success have z:=T0);refine (HRP.out _ HB.out).mono ?_;rintro e w0 ⟨A0,c0,rfl,hF,hB⟩;have HX:=hd_ hF;have HB:=hd_ (HB.out.trans (hB.mono HB.out.size));have T0:=hd_ True.intro;clear hF hB)
  | (go_at_call 36;(fail_if_success have z:=T1);refine (HWI.out _).mono ?_;rintro e w1 ⟨rfl,rfl⟩;have T1:=hd_ True.intro)
  | (go_at_call 38;(fail_if_success have z:=T2);refine (HLO.out A0 c0 _ HX.out.prg).mono ?_;rintro e w2 ⟨hB,hr2⟩;have HX:=hd_ (HX.out.past hB);have HB:=hd_ (HB.out.trans (hB.mono HB.out.size));have T2:=hd_ True.intro;clear hB;rcases hr2 with rfl|⟨k2x,rfl⟩))
 ·go_wp2_with (first
  | (go_at_call 39;(fail_if_success have z:=T3);refine (HFD.out _).mono ?_;rintro e w3 ⟨rfl,hB⟩;have HX:=hd_ (HX.out.past hB);have HB:=hd_ (HB.out.trans (hB.mono HB.out.size));have T3:=hd_ True.intro;clear hB)
  | (go_at_call 40;(fail_if_success have z:=T4);refine (HCK.out _ HB.out).mono ?_;rintro e w4 ⟨rfl,hB⟩;have HX:=hd_ (HX.out.past hB);have HB:=hd_ (HB.out.trans (hB.mono HB.out.size));have T4:=hd_ True.intro;clear hB)
  | (go_at_call 25;(have z:=T4;clear z);(fail_if_success have z:=T5);refine (HE1.out _ HB.out).mono ?_;rintro e w5 ⟨rfl,hB⟩;have HX:=hd_ (HX.out.past hB);have HB:=hd_ (HB.out.trans (hB.mono HB.out.size));have T5:=hd_ True.intro;clear hB)
  | (go_at_call 26;(have z:=T5;clear z);(fail_if_success have z:=T6);refine (HRQ.out _ HB.out).mono ?_;rintro e w6 ⟨A6,c6,rfl,hF,hB⟩;have HY:=hd_ hF;have HX:=hd_ (HX.out.past hB);have HB:=hd_ (HB.out.trans (hB.mono HB.out.size));have T6:=hd_ True.intro;clear hF hB)
  | (go_at_call 28;(fail_if_success have z:=T7);refine (HPG.out A0 c0 A6 c6 _ HX.out.prg HY.out.prg).mono ?_;rintro e w7 ⟨rfl,m7,rfl⟩;have HB:=hd_ (below_drewN HB.out m7);have T7:=hd_ True.intro)
  | (go_at_call 18;(fail_if_success have z:=T8);refine (HSA.out _ HB.out).mono ?_;rintro e w8 ⟨rfl,hB⟩;have HB:=hd_ (HB.out.trans (hB.mono HB.out.size));have T8:=hd_ True.intro;clear hB)
  | (go_at_call 25;(have z:=T8;clear z);refine (HE2.out _ HB.out).mono ?_;rintro e w9 ⟨rfl,hB⟩;have HB:=hd_ (HB.out.trans (hB.mono HB.out.size));clear hB))
  go_ret
  exact ⟨by first|rfl|(simp;done),HB.out⟩
 ·go_wp2
  go_ret
  exact ⟨by first|rfl|(simp;done),HB.out⟩):P:=h
theorem tM_ {P:Prop} (h:P:=by
 go_enter Tryz.func12,Tryz.ntmps12
 go_wp2_with (first
  | (go_at_call 26;(fail_if_success have z:=T0);refine (HRP.out _ HB.out).mono ?_;rintro e w0 ⟨A0,c0,rfl,hF,hB⟩;have HX:=hd_ hF;have HB:=hd_ (HB.out.trans (hB.mono HB.out.size));have T0:=hd_ True.intro;clear hF hB)
  | (go_at_call 36;(fail_if_success have z:=T1);refine (HWI.out _).mono ?_;rintro e w1 ⟨rfl,rfl⟩;have T1:=hd_ True.intro)
  | (go_at_call 39;(fail_if_success have z:=T3);refine (HFD.out _).mono ?_;rintro e w3 ⟨rfl,hB⟩;have HX:=hd_ (HX.out.past hB);have HB:=hd_ (HB.out.trans (hB.mono HB.out.size));have T3:=hd_ True.intro;clear hB)
  | (go_at_call 40;(fail_if_success have z:=T4);refine (HCK.out _ HB.out).mono ?_;rintro e w4 ⟨rfl,hB⟩;have HX:=hd_ (HX.out.past hB);have HB:=hd_ (HB.out.trans (hB.mono HB.out.size));have T4:=hd_ True.intro;clear hB)
  | (go_at_call 25;(have z:=T4;clear z);(fail_if_success have z:=T5);refine (HE1.out _ HB.out).mono ?_;rintro e w5 ⟨rfl,hB⟩;have HX:=hd_ (HX.out.past hB);have HB:=hd_ (HB.out.trans (hB.mono HB.out.size));have T5:=hd_ True.intro;clear hB)
  | (go_at_call 26;(have z:=T5;clear z);(fail_if_success have z:=T6);refine (HRQ.out _ HB.out).mono ?_;rintro e w6 ⟨A6,c6,rfl,hF,hB⟩;have HY:=hd_ hF;have HX:=hd_ (HX.out.past hB);have HB:=hd_ (HB.out.trans (hB.mono HB.out.size));have T6:=hd_ True.intro;clear hF hB)
  | (go_at_call 28;(fail_if_success have z:=T7);refine (HPG.out A0 c0 A6 c6 _ HX.out.prg HY.out.prg).mono ?_;rintro e w7 ⟨rfl,m7,rfl⟩;have HB:=hd_ (below_drewN HB.out m7);have T7:=hd_ True.intro)
  | (go_at_call 18;(fail_if_success have z:=T8);refine (HSA.out _ HB.out).mono ?_;rintro e w8 ⟨rfl,hB⟩;have HB:=hd_ (HB.out.trans (hB.mono HB.out.size));have T8:=hd_ True.intro;clear hB)
  | (go_at_call 25;(have z:=T8;clear z);refine (HE2.out _ HB.out).mono ?_;rintro e w9 ⟨rfl,hB⟩;have HB:=hd_ (HB.out.trans (hB.mono HB.out.size));clear hB))
 go_ret
 exact ⟨by first|rfl|(simp;done),HB.out⟩):P:=h
theorem afL_ {P:Prop} (h:P:=by
 by_cases hg6:g6=0
 ·subst hg6
  have HSA:Hid (∀ w',Below w.heap.size w w'->Calls Tryz.prog 18 #[.string s,.string t] w' (Ret w' (.tuple #[.bool bq,.nilIface]))):=hd_ (fun w' hB=>by have:=iP_ s t w' HSS.out HST.out (HM.out.past hB);unfold fM_ at this;rw [show eE_ s t=bq by rw [eE_,hs6,ht6,if_neg (by simp),if_neg (by simp)];exact hbq,show eF_ s t=0 by rw [eF_,hs6,ht6,if_neg (by simp)],← dN_ rfl] at this;exact this)
  have HE2:Hid (∀ w',Below w.heap.size w w'->Calls Tryz.prog 25 #[.nilIface,.int .i64 0] w' (Ret w' (.bool true))):=hd_ (fun w' hB=>n1_ w' (HG.out.past hgs hB) (Nat.le_trans hgs hB.size))
  clear hs6 ht6 hbq
  exact afK_
 ·have v6:(g6==0)=false:=beq_eq_false_iff_ne.2 hg6
  have v7:decide (g6=0)=false:=decide_eq_false hg6
  have HSA:Hid (∀ w',Below w.heap.size w w'->Calls Tryz.prog 18 #[.string s,.string t] w' (Ret w' (.tuple #[.bool false,(.iface 43 (.int .i64 g6))]))):=hd_ (fun w' hB=>by have:=iP_ s t w' HSS.out HST.out (HM.out.past hB);unfold fM_ at this;rw [show eE_ s t=false by rw [eE_,hs6,ht6,if_neg (by simp),if_pos hg6],show eF_ s t=g6 by rw [eF_,hs6,ht6,if_neg (by simp)],← bQ_ hg6] at this;exact this)
  have HE2:Hid (∀ w',Below w.heap.size w w'->Calls Tryz.prog 25 #[.iface 43 (.int .i64 g6),.int .i64 g6] w' (Ret w' (.bool true))):=hd_ (fun w' hB=>g0_ _ hg6 w' (HG.out.past hgs hB) (Nat.le_trans hgs hB.size))
  clear hs6 ht6 hbq hg6
  exact afK_):P:=h
theorem yQ_ (s:ByteArray) (W:Int) (t:ByteArray) (w:World) (hsz:s.size<=maxLen) (htz:t.size<=maxLen) (hm:cU_ w) (hpw:fB_ w) (hg:hW_ w) (hgs:0+1<=w.heap.size) :
  Calls Tryz.prog 12 #[.string s,.int .i64 W,.string t] w (Ret w (.bool true)):=by
 have HB:=hd_ (Below.refl w.heap.size w)
 have HM:=hd_ hm;have HPW:=hd_ hpw;have HG:=hd_ hg;have HSS:=hd_ hsz;have HST:=hd_ htz
 have HWI:=hd_ (fun w'=>abY_ W w')
 clear hm hpw hg hsz htz
 obtain ⟨f6,k6,x6,hs6⟩:∃ f k x,aH_ s=(f,k,x):=⟨_,_,_,rfl⟩
 obtain ⟨n6,hn6⟩:∃ n,x6.length=n:=⟨_,rfl⟩
 obtain ⟨g6,j6,y6,ht6⟩:∃ f k x,aH_ t=(f,k,x):=⟨_,_,_,rfl⟩
 obtain ⟨m6,hm6⟩:∃ n,y6.length=n:=⟨_,rfl⟩
 obtain ⟨bq,hbq⟩:∃ b,hC_ x6 y6=b:=⟨_,rfl⟩
 have HRP:Hid (∀ w',Below w.heap.size w w'->Calls Tryz.prog 26 #[.string s] w' fun e w''=>∃ A c,e=.returned (.tuple #[.slice A n6 c,.int .i64 (k6:Nat),.int .i64 f6])/\dH_ w'.heap.size w'' A x6/\Below w'.heap.size w' w''):=hd_ (fun w' hB=>sE_ hs6 hn6 w' HSS.out)
 have HRQ:Hid (∀ w',Below w.heap.size w w'->Calls Tryz.prog 26 #[.string t] w' fun e w''=>∃ A c,e=.returned (.tuple #[.slice A m6 c,.int .i64 (j6:Nat),.int .i64 g6])/\dH_ w'.heap.size w'' A y6/\Below w'.heap.size w' w''):=hd_ (fun w' hB=>sE_ ht6 hm6 w' HST.out)
 have HPG:Hid (∀ (A:Option Addr) (c:Nat) (A2:Option Addr) (c2:Nat) w',Prg w' w'.heap.size A x6->Prg w' w'.heap.size A2 y6->Calls Tryz.prog 28 #[.slice A n6 c,.slice A2 m6 c2] w' fun e w''=>e=.returned (.bool bq)/\∃ m,w''=w'.drewN m):=hd_ (fun A c A2 c2 w' ha hb=>by have:=abS_ x6 y6 n6 m6 hn6 hm6 A A2 c c2 w' ha hb;rwa [hbq] at this)
 by_cases hw:c9_ W=true
 case neg =>
  have hw0:c9_ W=false:=by simpa using hw
  rw [hw0] at HWI
  have HCK:Hid (∀ w',Below w.heap.size w w'->Calls Tryz.prog 40 #[.string s,.int .i64 W] w' (Ret w' (.tuple #[.int .i64 0,.int .i64 (0:Nat),(.iface 43 (.int .i64 1))]))):=hd_ (fun w' hB=>by have:=mX_ (s:=s) (W:=W) (f:=1) (k:=0) (by rw [fO_,if_pos hw0]) (by decide) w' HSS.out (HM.out.past hB) (HPW.out.past hB);exact this)
  have HE1:Hid (∀ w',Below w.heap.size w w'->Calls Tryz.prog 25 #[.iface 43 (.int .i64 1),.int .i64 1] w' (Ret w' (.bool true))):=hd_ (fun w' hB=>g0_ _ (by decide) w' (HG.out.past hgs hB) (Nat.le_trans hgs hB.size))
  by_cases hf6:f6=0
  ·subst hf6
   obtain rfl:k6=0:=oN_ hs6
   clear hw hw0
   by_cases hg6:g6=0
   ·subst hg6
    have HSA:Hid (∀ w',Below w.heap.size w w'->Calls Tryz.prog 18 #[.string s,.string t] w' (Ret w' (.tuple #[.bool bq,.nilIface]))):=hd_ (fun w' hB=>by have:=iP_ s t w' HSS.out HST.out (HM.out.past hB);unfold fM_ at this;rw [show eE_ s t=bq by rw [eE_,hs6,ht6,if_neg (by simp),if_neg (by simp)];exact hbq,show eF_ s t=0 by rw [eF_,hs6,ht6,if_neg (by simp)],← dN_ rfl] at this;exact this)
    have HE2:Hid (∀ w',Below w.heap.size w w'->Calls Tryz.prog 25 #[.nilIface,.int .i64 0] w' (Ret w' (.bool true))):=hd_ (fun w' hB=>n1_ w' (HG.out.past hgs hB) (Nat.le_trans hgs hB.size))
    clear hs6 ht6 hbq
    exact tM_
   ·have v6:(g6==0)=false:=beq_eq_false_iff_ne.2 hg6
    have v7:decide (g6=0)=false:=decide_eq_false hg6
    have HSA:Hid (∀ w',Below w.heap.size w w'->Calls Tryz.prog 18 #[.string s,.string t] w' (Ret w' (.tuple #[.bool false,(.iface 43 (.int .i64 g6))]))):=hd_ (fun w' hB=>by have:=iP_ s t w' HSS.out HST.out (HM.out.past hB);unfold fM_ at this;rw [show eE_ s t=false by rw [eE_,hs6,ht6,if_neg (by simp),if_pos hg6],show eF_ s t=g6 by rw [eF_,hs6,ht6,if_neg (by simp)],← bQ_ hg6] at this;exact this)
    have HE2:Hid (∀ w',Below w.heap.size w w'->Calls Tryz.prog 25 #[.iface 43 (.int .i64 g6),.int .i64 g6] w' (Ret w' (.bool true))):=hd_ (fun w' hB=>g0_ _ hg6 w' (HG.out.past hgs hB) (Nat.le_trans hgs hB.size))
    clear hs6 ht6 hbq hg6
    exact tM_
  ·have d6:(f6==0)=false:=beq_eq_false_iff_ne.2 hf6
   have d7:decide (f6=0)=false:=decide_eq_false hf6
   have HSA:Hid (∀ w',Below w.heap.size w w'->Calls Tryz.prog 18 #[.string s,.string t] w' (Ret w' (.tuple #[.bool false,(.iface 43 (.int .i64 f6))]))):=hd_ (fun w' hB=>by have:=iP_ s t w' HSS.out HST.out (HM.out.past hB);unfold fM_ at this;rw [show eE_ s t=false by rw [eE_,hs6,if_pos hf6],show eF_ s t=f6 by rw [eF_,hs6,if_pos hf6],← bQ_ hf6] at this;exact this)
   have HE2:Hid (∀ w',Below w.heap.size w w'->Calls Tryz.prog 25 #[.iface 43 (.int .i64 f6),.int .i64 f6] w' (Ret w' (.bool true))):=hd_ (fun w' hB=>g0_ _ hf6 w' (HG.out.past hgs hB) (Nat.le_trans hgs hB.size))
   clear hw hw0 hs6 ht6 hbq hf6
   exact tM_
 case pos =>
 rw [hw] at HWI
 by_cases hf6:f6=0
 case neg =>
  have d6:(f6==0)=false:=beq_eq_false_iff_ne.2 hf6
  have d7:decide (f6=0)=false:=decide_eq_false hf6
  have HCK:Hid (∀ w',Below w.heap.size w w'->Calls Tryz.prog 40 #[.string s,.int .i64 W] w' (Ret w' (.tuple #[.int .i64 0,.int .i64 (k6:Nat),(.iface 43 (.int .i64 f6))]))):=hd_ (fun w' hB=>by have:=mX_ (s:=s) (W:=W) (f:=f6) (k:=k6) (by rw [fO_,hs6,if_neg (by simp [hw]),if_pos hf6]) hf6 w' HSS.out (HM.out.past hB) (HPW.out.past hB);exact this)
  have HE1:Hid (∀ w',Below w.heap.size w w'->Calls Tryz.prog 25 #[.iface 43 (.int .i64 f6),.int .i64 f6] w' (Ret w' (.bool true))):=hd_ (fun w' hB=>g0_ _ hf6 w' (HG.out.past hgs hB) (Nat.le_trans hgs hB.size))
  have HSA:Hid (∀ w',Below w.heap.size w w'->Calls Tryz.prog 18 #[.string s,.string t] w' (Ret w' (.tuple #[.bool false,(.iface 43 (.int .i64 f6))]))):=hd_ (fun w' hB=>by have:=iP_ s t w' HSS.out HST.out (HM.out.past hB);unfold fM_ at this;rw [show eE_ s t=false by rw [eE_,hs6,if_pos hf6],show eF_ s t=f6 by rw [eF_,hs6,if_pos hf6],← bQ_ hf6] at this;exact this)
  have HE2:Hid (∀ w',Below w.heap.size w w'->Calls Tryz.prog 25 #[.iface 43 (.int .i64 f6),.int .i64 f6] w' (Ret w' (.bool true))):=hd_ (fun w' hB=>g0_ _ hf6 w' (HG.out.past hgs hB) (Nat.le_trans hgs hB.size))
  clear hw hs6 ht6 hbq hf6
  exact tM_
 case pos =>
 subst hf6
 obtain rfl:k6=0:=oN_ hs6
 have hx6:=oP_ (by have:=sD_ (s:=s) (by rw [hs6]);rwa [hs6] at this:(c1_ x6).2=0)
 obtain ⟨E6,hE6⟩:∃ n,bN_ W x6=n:=⟨_,rfl⟩
 obtain ⟨Z6,hZ6⟩:∃ z,(if E6=0 then bT_ W x6 else ByteArray.empty)=z:=⟨_,rfl⟩
 have HLO:Hid (∀ (A:Option Addr) (c:Nat) w',Prg w' w'.heap.size A x6->Calls Tryz.prog 38 #[.slice A n6 c,.int .i64 W] w' (fun e w''=>Below w'.heap.size w' w''/\(e=.returned (.tuple #[.string Z6,.int .i64 E6,.bool true])∨∃ k:Int,e=.returned (.tuple #[.string ⟨#[]⟩,.int .i64 k,.bool false])))):=hd_ (fun A c w' h=>by have:=wL_ x6 W n6 hn6 A c w' h hx6.2.1 (by rw [← hn6];exact hx6.1) hw;unfold tR_ at this;rw [hE6,hZ6] at this;exact this)
 have hzs:Z6.size<=30000000:=by
  rw [← hZ6]
  by_cases h:E6=0
  ·rw [if_pos h];exact yK_ hx6.2.1 hx6.1 (by rw [hE6];exact h)
  ·rw [if_neg h];exact Nat.zero_le _
 have HFD:=hd_ (fun w'=>tB_ s Z6 w' HSS.out (by simp only [maxLen];omega))
 by_cases hq6:E6=0
 case neg =>
  have hz6:Z6=⟨#[]⟩:=by rw [← hZ6,if_neg hq6];rfl
  subst hz6
  have e6:(E6==0)=false:=beq_eq_false_iff_ne.2 hq6
  have e7:decide (E6=0)=false:=decide_eq_false hq6
  have HCK:Hid (∀ w',Below w.heap.size w w'->Calls Tryz.prog 40 #[.string s,.int .i64 W] w' (Ret w' (.tuple #[.int .i64 0,.int .i64 (0:Nat),(.iface 43 (.int .i64 E6))]))):=hd_ (fun w' hB=>by have:=mX_ (s:=s) (W:=W) (f:=E6) (k:=0) (by rw [fO_,hs6,if_neg (by simp [hw]),if_neg (by simp),if_pos (by rw [hE6];exact hq6),hE6]) hq6 w' HSS.out (HM.out.past hB) (HPW.out.past hB);exact this)
  have HE1:Hid (∀ w',Below w.heap.size w w'->Calls Tryz.prog 25 #[.iface 43 (.int .i64 E6),.int .i64 E6] w' (Ret w' (.bool true))):=hd_ (fun w' hB=>g0_ _ hq6 w' (HG.out.past hgs hB) (Nat.le_trans hgs hB.size))
  generalize fZ_ 0 s.data.toList (⟨#[]⟩:ByteArray).data.toList=D6 at *
  clear hw hx6 hE6 hZ6 hzs hq6
  exact afL_
 case pos =>
 subst hq6
 have hz6:Z6=bT_ W x6:=by rw [← hZ6,if_pos rfl]
 have HCK:Hid (∀ w',Below w.heap.size w w'->Calls Tryz.prog 40 #[.string s,.int .i64 W] w' (Ret w' (.tuple #[.int .i64 (fZ_ 0 s.data.toList Z6.data.toList),.int .i64 (0:Nat),.nilIface]))):=hd_ (fun w' hB=>by have:=ad2_ (s:=s) (W:=W) (T:=Z6) (by rw [fO_,hs6,if_neg (by simp [hw]),if_neg (by simp),if_neg (by simp [hE6]),hz6]) (abO_ hs6) (by omega) w' HSS.out (HM.out.past hB) (HPW.out.past hB);exact this)
 have HE1:Hid (∀ w',Below w.heap.size w w'->Calls Tryz.prog 25 #[.nilIface,.int .i64 0] w' (Ret w' (.bool true))):=hd_ (fun w' hB=>n1_ w' (HG.out.past hgs hB) (Nat.le_trans hgs hB.size))
 generalize fZ_ 0 s.data.toList Z6.data.toList=D6 at *
 clear hw hx6 hE6 hZ6 hzs hz6
 exact afL_
end Go.Proofs.YtddfdmopaeghnacGreatDoor
