/- What every law's row wants: arguments read as before behind a call that leaves old memory as it was; slices of nodes, of texts, of numbers opened. With what it rests on. Conditions: as each theorem states them. -/
import Derived.Test.YtddfdmopaeghnacGreatDoorRows
import Derived.Test.YtddfdmopaeghnacGreatDoorFqMm
import Derived.ProofKit
import Derived.Deep.Slices
import Derived.SizedLaws
import Derived.Test.YtddfdmopaeghnacGreatDoorFqTr
import Derived.Deep.DeepHandedRow
import Derived.Lib.LaidTab
import Derived.Shelf.Vars
import Derived.Test.YtddfdmopaeghnacGreatDoorFqEr
import Derived.ChangeSame
import Derived.ChangeVars
import Derived.JoinedOf
import Derived.RowKit
import Derived.RowKitTokens
import Derived.LaidLaws
import Derived.LaidHandle
import Derived.Stop.Joined
import Derived.Test.YtddfdmopaeghnacGreatDoorFqSy
import Derived.Lib.TrailingZeros
import Derived.Lib.ItoaNum
import Derived.Test.YtddfdmopaeghnacGreatDoorFqPs
import Derived.Test.YtddfdmopaeghnacGreatDoorFqBe
import Derived.Test.YtddfdmopaeghnacGreatDoorFqLo
import Derived.Test.YtddfdmopaeghnacGreatDoorFqRm
import Derived.Test.YtddfdmopaeghnacGreatDoorFqFi
import Derived.Test.YtddfdmopaeghnacGreatDoorFqBo
import Derived.Test.YtddfdmopaeghnacGreatDoorFqRr
set_option maxRecDepth 100000
set_option maxHeartbeats 16000000
namespace Go.Proofs.YtddfdmopaeghnacGreatDoor
open Go.ChangeShapes Go.WideShapes Go.ChangeAt Go.RowKit Go.Deep
theorem own:ownKnob Tryz.prog.godebug=none:=by kernel_rfl
theorem laidOut:laidOutB Tryz.prog=true:=by kernel_rfl
section
variable {H:Type} {enc:TypeId × Value->H} {P:Program}
theorem trodAll_stay (hl:laidOutB P=true) {W W':World} (hb:Below W.heap.size W W') {sp:Nat->Bool} :
  ∀ {ts:List TypeId} {vs:List Value} {ds:List (DataW H)} {p:List MemPlace},(∀ t ∈ ts,P.readableRec t=true/\t<P.types.size) ->
   DataW.TrodAll enc P W 0 (fun _=>true) true ts vs ds p->(∀ x ∈ p,x.block<W.heap.size)->(∀ x ∈ p,sp x.block=true)->DataW.TrodAll enc P W' 0 sp true ts vs ds p
 | [],_,_,_,_,h,_,_=>by
  obtain ⟨rfl,rfl,rfl⟩:=trodAll_nil h
  exact h
 | t::ts,_,_,_,hr,h,hlt,hsp=>by
  obtain ⟨v,vs1,d,ds1,a,b,rfl,rfl,rfl,h1,h2⟩:=trodAll_cons h
  obtain ⟨r1,r2⟩:=hr t (by simp)
  exact ⟨a,b,WideElems.Trod_stays hl r1 r2 h1 (fun x hx=>hb.same (hlt x (List.mem_append_left _ hx))) (fun x hx=>hsp x (List.mem_append_left _ hx)),
   trodAll_stay hl hb (fun t ht=>hr t (by simp [ht])) h2 (fun x hx=>hlt x (List.mem_append_right _ hx)) (fun x hx=>hsp x (List.mem_append_right _ hx)),rfl⟩
theorem law_post {f:Func} {s:ChangeSpec} {W W':World} {args:Array Value} {ds gs:List (DataW H)} {before:List MemPlace} {t:TypeId}
  (hW:DataW.Whole enc P f.params.toList s.vars false W args.toList ds gs before) (hv:s.vars=[])
  (hfn:s.fn H (ds++[])={ results:=[.lit (.bool true)],args:=ds }) (hres:f.resultTypes=#[t]) (ht:P.underlying t=some .bool)
  (hl:laidOutB P=true) (hr:(f.params.toList.all fun t=>P.readableRec t&&decide (t<P.types.size))=true) (hb:Below W.heap.size W W') :
  s.post enc P f false true false false W args (.bool true) W':=by
 have hW0:=hW
 have hlt:∀ x ∈ before,x.block<W.heap.size:=fun x hx=>hW.lt x hx
 obtain ⟨p,q,hA,hV,rfl,hfz,hnd⟩:=hW
 rw [hv] at hV
 obtain ⟨rfl,rfl⟩:=trodVars_none hV
 have hr':∀ t ∈ f.params.toList,P.readableRec t=true/\t<P.types.size:=fun t ht=>by
  have:=List.all_eq_true.1 hr t ht
  simpa using this
 refine ⟨ds,[],p++[],[],p,[],hW0,?_,?_,?_,hb.frame _,fun h=>by cases h⟩
 ·rw [hfn,hres]
  exact trodAll_mk1 (shut_bool ht true)
 ·rw [hfn]
  refine trodAll_stay hl hb hr' hA (fun x hx=>hlt x (by simpa using hx)) (fun x hx=>by simpa using hlt x (by simpa using hx))
 ·rw [hfn,hv]
  exact rfl
theorem open_sl {W:World} {t e:TypeId} {sz base:Nat} {v:Value} {d:DataW H} {p:List MemPlace} (ht:P.underlying t=some (.slice e)) (hC:P.cellsOf e=sz) (hz:0<sz)
  (hv:Value.okWide P W .any base t v) (h:DataW.Trod enc P W 0 (fun _=>true) true t v d p) (hlt:∀ x ∈ p,x.block<W.heap.size) :
  ∃ (A:Option Addr) (n c:Nat) (css:List (List Value)),v=.slice A n c/\css.length=n/\Sl W W.heap.size sz A n css.flatten/\n<=c/\n<=maxLen /\
   (d=.nil∨∃ elems spare:List (DataW H),d=.slice elems spare/\elems.length=n) /\
   ∀ cs ∈ css,cs.length=sz/\∃ (k:Nat) (y:DataW H × List MemPlace),DataW.trod enc P W 0 (fun _=>true) true k e cs=some y/\(∀ x ∈ y.2,x ∈ p)/\∃ elems spare:List (DataW H),d=.slice elems spare/\y.1 ∈ elems:=by
 obtain ⟨A,n,c,rfl⟩:=okWide_slice ht hv
 obtain ⟨fuel,hf⟩:=h
 rcases open_slice ht hf with ⟨hcs,hx⟩|⟨a,len,cap,m,k,D,Pl,hcs,_,hl,hm,hmm,hx,hi⟩
 ·simp [Value.cells] at hcs
  obtain ⟨rfl,rfl,rfl⟩:=hcs
  exact ⟨none,0,0,[],rfl,rfl,.nil_,Nat.le_refl _,by simp [maxLen],.inl (by cases hx;rfl),by simp⟩
 ·simp [Value.cells] at hcs
  obtain ⟨rfl,rfl,rfl⟩:=hcs
  simp only [if_true] at hmm
  subst hmm
  rw [hC] at hi hx
  obtain ⟨F,hF⟩:=choose_lt (α:=List Value) (p:=fun i cs=>W.cells? 0 (a.add (i*sz)) sz=some cs/\DataW.trod enc P W 0 (fun _=>true) true k e cs=some (D i,Pl i)) (fun i hi'=>hi i hi')
  have hlenF:∀ i,i<m->(F i).length=sz:=fun i hi'=>(World.cells?_some (hF i hi').1).2.1
  have hflat:∀ (q:Nat),q<=m->((List.range q).map F).flatten.length=q*sz/\∀ i j,i<q->j<sz->((List.range q).map F).flatten[i*sz+j]?=(F i)[j]?:=by
   intro q
   induction q with
   | zero=>intro _;exact ⟨by simp,fun i j hi'=>absurd hi' (by omega)⟩
   | succ q ih =>
    intro hq
    obtain ⟨h1,h2⟩:=ih (by omega)
    have e1:((List.range (q+1)).map F).flatten=((List.range q).map F).flatten++F q:=by simp [List.range_succ]
    rw [e1]
    refine ⟨by rw [List.length_append,h1,hlenF q (by omega),Nat.add_mul,Nat.one_mul],fun i j hi' hj=>?_⟩
    rcases Nat.lt_or_ge i q with hlt'|hge
    ·have:i*sz+j<q*sz:=by
      have:(i+1)*sz<=q*sz:=Nat.mul_le_mul_right _ hlt'
      rw [Nat.add_mul] at this;omega
     rw [List.getElem?_append_left (by omega)]
     exact h2 i j hlt' hj
    ·obtain rfl:i=q:=by omega
     rw [List.getElem?_append_right (by omega),h1]
     congr 1;omega
  have hp:p=MemPlace.row a (m*sz)++(List.range m).flatMap Pl:=by cases hx;rfl
  refine ⟨some a,n,m,(List.range n).map F,rfl,by simp,⟨(hflat n hl).1,fun hn=>?_⟩,hl,Nat.le_trans hl hm,.inr ⟨_,_,(by cases hx;rfl),by simp⟩,?_⟩
  ·have hmpos:0<m*sz:=Nat.mul_pos (by omega) hz
   have hblk:a.block<W.heap.size:=hlt (.cell a.block (a.off+0)) (by rw [hp];exact List.mem_append_left _ (MemPlace.mem_row.2 ⟨0,hmpos,rfl⟩))
   have hc0:∀ i j,i<m->j<sz->W.cell? ((a.add (i*sz)).add j)=(F i)[j]?:=fun i j h1 h2=>(World.cells?_some (hF i h1).1).2.2 j h2
   have hspot:a.spot=none:=by
    have h0:=hc0 0 0 (by omega) hz
    rw [Nat.zero_mul,List.getElem?_eq_getElem (by rw [hlenF 0 (by omega)];exact hz)] at h0
    simp only [Addr.add,if_true,World.cell?] at h0
    split at h0
    ·split at h0
     ·cases h0
     ·rename_i hs
      cases hsp:a.spot with
      | none=>rfl
      | some _=>simp [hsp] at hs
    ·cases h0
   have ha:a=⟨a.block,a.off,none⟩:=by
    cases a
    simp only at hspot
    subst hspot
    rfl
   refine ⟨a.block,a.off,congrArg some ha,hblk,fun j u hu=>?_⟩
   have hjl:j<n*sz:=by
    rw [← (hflat n hl).1]
    exact (List.getElem?_eq_some_iff.1 hu).1
   have hdiv:j / sz<n:=(Nat.div_lt_iff_lt_mul hz).2 hjl
   have hmod:=Nat.mod_lt j hz
   have hj:j=j / sz*sz+j % sz:=by rw [Nat.mul_comm];exact (Nat.div_add_mod j sz).symm
   have h1:=(hflat n hl).2 (j / sz) (j % sz) hdiv hmod
   rw [← hj,hu] at h1
   have h2:=hc0 (j / sz) (j % sz) (by omega) hmod
   rw [Go.Deep.add_add,← hj,← h1] at h2
   rw [← h2]
   unfold Addr.add
   split
   ·rename_i h0;rw [h0,Nat.add_zero,← ha]
   ·rfl
  ·intro cs hcs
   obtain ⟨i,hi',rfl⟩:=List.mem_map.1 hcs
   have hi2:i<m:=by have:=List.mem_range.1 hi';omega
   refine ⟨hlenF i hi2,k,_,(hF i hi2).2,fun x hx'=>?_,?_⟩
   ·rw [hp]
    exact List.mem_append_right _ (List.mem_flatMap.2 ⟨i,List.mem_range.2 hi2,hx'⟩)
   ·refine ⟨_,_,congrArg Prod.fst hx,?_⟩
    exact List.mem_map_of_mem (List.mem_range.2 (List.mem_range.1 hi'))
theorem flatten_map {α:Type} {css:List (List Value)} {f:α->List Value} {l:List α} (h:css=l.map f):css.flatten=l.flatMap f:=by
 rw [h,List.flatMap_def]
theorem list_of {α:Type} {p:List Value->Prop} {q:α->Prop} {f:α->List Value} {css:List (List Value)} (h:∀ cs ∈ css,p cs) (hp:∀ cs,p cs->∃ a,cs=f a/\q a):∃ l:List α,css=l.map f/\∀ a ∈ l,q a:=by
 induction css with
 | nil=>exact ⟨[],rfl,by simp⟩
 | cons cs r ih =>
  obtain ⟨a,ha,hq⟩:=hp cs (h cs (by simp))
  obtain ⟨l,hl,hql⟩:=ih (fun c hc=>h c (by simp [hc]))
  refine ⟨a::l,by rw [hl,ha];rfl,fun x hx=>?_⟩
  rcases List.mem_cons.1 hx with rfl|hx
  ·exact hq
  ·exact hql x hx
end
end Go.Proofs.YtddfdmopaeghnacGreatDoor
namespace Go.Proofs.YtddfdmopaeghnacGreatDoor
open Go.ChangeShapes Go.WideShapes Go.ChangeAt Go.RowKit Go.Deep
section
variable {P:Program} {H:Type} {enc:TypeId × Value->H}
end
theorem cellsTree:Tryz.prog.cellsOf 25=3:=by kernel_rfl
theorem bulk_part {H:Type} {d:DataW H} {l:List (DataW H)} (h:d ∈ l):Rows.uptoBulk d<=Rows.uptoBulkAll l:=by
 induction l with
 | nil=>cases h
 | cons x r ih =>
  simp only [Rows.uptoBulkAll]
  cases List.mem_cons.1 h with
  | inl e=>subst e;omega
  | inr e=>have:=ih e;omega
theorem bulk_string {H:Type} (bytes:List UInt8):Rows.uptoBulk (DataW.lit (H:=H) (.string bytes))=bytes.length+1:=by simp [Rows.uptoBulk]
theorem bulk_elem {H:Type} {d:DataW H} {elems spare:List (DataW H)} (h:d ∈ elems):Rows.uptoBulk d<=Rows.uptoBulk (DataW.slice elems spare):=by
 have:=bulk_part h
 simp only [Rows.uptoBulk];omega
theorem bulk_field {H:Type} {d:DataW H} {parts:List (DataW H)} (h:d ∈ parts):Rows.uptoBulk d<=Rows.uptoBulk (DataW.agg parts):=by
 have:=bulk_part h
 simp only [Rows.uptoBulk];omega
theorem open_trees {H:Type} {enc:TypeId × Value->H} {W:World} {base:Nat} {v:Value} {d:DataW H} {p:List MemPlace}
  (hv:Value.okWide Tryz.prog W .any base 22 v) (h:DataW.Trod enc Tryz.prog W 0 (fun _=>true) true 22 v d p) (hlt:∀ x ∈ p,x.block<W.heap.size) :
  ∃ (A:Option Addr) (c:Nat) (l:List Nd),v=.slice A l.length c/\Nds W W.heap.size A l/\l.length<=c/\∀ x ∈ l,x.text.size+1<=Rows.uptoBulk d:=by
 obtain ⟨A,n,c,css,rfl,rfl,hs,hc,hm,hd,hcs⟩:=open_sl Tryz.underlying22 cellsTree (by omega) hv h hlt
 obtain ⟨l,hl,hw⟩:=list_of (f:=ndCells) (q:=fun x=>x.text.size<=maxLen/\x.text.size+1<=Rows.uptoBulk d) hcs (fun cs ⟨h1,k,y,hy,_,hin⟩=>by
  obtain ⟨xs,n,_,hyx,_,hlen,hf⟩:=DataW.trod_struct Tryz.underlying25 hy
  match cs,h1 with
  | [c0,c1,c2],_ =>
   match xs,hlen with
   | [y0,y1,y2],_ =>
    have e0:=hf 0 _ rfl
    have e1:=hf 1 _ rfl
    have e2:=hf 2 _ rfl
    have k0:Tryz.prog.cellsOf 3=1:=by kernel_rfl
    have k1:Tryz.prog.cellsOf 9=1:=by kernel_rfl
    simp [k0,k1] at e0 e1 e2
    obtain ⟨a,ha,_,wa⟩:=DataW.trod_int Tryz.underlying3 e0
    obtain ⟨t,htx,hy1,wt⟩:=DataW.trod_string Tryz.underlying9 e1
    obtain ⟨b,hb,_,wb⟩:=DataW.trod_int Tryz.underlying3 e2
    simp at ha htx hb
    subst ha htx hb
    refine ⟨⟨a,t,b⟩,rfl,wt,?_⟩
    obtain ⟨elems,spare,he,hmem⟩:=hin
    rw [hyx] at hmem
    have h2:Rows.uptoBulk (DataW.lit (H:=H) (.string t.data.toList))<=Rows.uptoBulk (DataW.agg ([y0,y1,y2].map (·.1))):=bulk_field (by rw [hy1];simp)
    have h3:=bulk_elem (spare:=spare) hmem
    rw [bulk_string] at h2
    rw [he]
    have h4:t.data.toList.length=t.size:=by simp
    show t.size+1<=_
    simp only at h3
    omega)
 rw [flatten_map hl] at hs
 have hlen:css.length=l.length:=by rw [hl,List.length_map]
 rw [hlen] at hs hc hm ⊢
 exact ⟨A,c,l,rfl,⟨hs,hm,fun x hx=>(hw x hx).1⟩,hc,fun x hx=>(hw x hx).2⟩
theorem maxL_of {W:World} (h:W.ShapedOpen Tryz.prog):MaxL W:=by
 obtain ⟨m,hm⟩:=cell_of_shapedOpen_int (P:=Tryz.prog) (g:=1) (t:=3) (zero:=#[.int .i64 0]) (k:=.i64) h (of_decide_eq_true (by kernel_rfl)) (by kernel_rfl) rfl (by kernel_rfl) (by kernel_rfl) Tryz.underlying3
 refine ⟨?_,m,hm⟩
 rcases Nat.lt_or_ge 1 W.heap.size with h1|h1
 ·exact h1
 ·unfold World.cell? at hm
  simp [Array.getElem?_eq_none h1] at hm
end Go.Proofs.YtddfdmopaeghnacGreatDoor
namespace Go.Proofs.YtddfdmopaeghnacGreatDoor
open Go.ChangeShapes Go.WideShapes Go.RowKit
theorem etName : Tryz.prog.globalNamed "errors.errorType" = some 0 := by kernel_rfl
theorem rtType : (Tryz.prog.cutTypes.find? (·.1 == "internal/reflectlite.rtype")).map (·.2) = some 273 := by kernel_rfl
theorem oneError:((List.range 355).filter fun t=>Tryz.prog.rowNamed t [101,114,114,111,114])=[28]:=by kernel_rfl
theorem manyTypes:Tryz.prog.types.size=355:=by kernel_rfl
theorem errT_of_laid {W : World} (h : laidMetH Tryz.prog [("errors.errorType", Rows.laid_errors_errorType)] W) : ErrT W := by
 have h' : laidMet Tryz.prog [] W ∧ handlesMet Tryz.prog [("errors.errorType", Rows.laid_errors_errorType)] W := h
 obtain ⟨name,u,ty,e1,e2,e3,e4,e5⟩:=h'.2 _ (List.mem_singleton.2 rfl)
 have en:name=[101,114,114,111,114]:=(Option.some.inj e1).symm
 subst en
 obtain rfl:=Option.some.inj (rtType.symm.trans e2)
 have hm:ty ∈ (List.range 355).filter fun t=>Tryz.prog.rowNamed t [101,114,114,111,114]:=List.mem_filter.2 ⟨List.mem_range.2 (by rw [← manyTypes];exact e3),e4⟩
 rw [oneError] at hm
 obtain rfl:=List.mem_singleton.1 hm
 have hh:typeHandle Tryz.prog 28=.pointer (some ⟨9,28,none⟩):=by kernel_rfl
 rw [hh] at e5
 have:=World.var?_cell etName e5 0
 simpa [ErrT] using this
theorem ErrT.size {W:World} (h:ErrT W):0+1<=W.heap.size:=by
 rcases Nat.lt_or_ge 0 W.heap.size with h1|h1
 ·exact h1
 ·unfold ErrT World.cell? at h
  simp [Array.getElem?_eq_none h1] at h
end Go.Proofs.YtddfdmopaeghnacGreatDoor
namespace Go.Proofs.YtddfdmopaeghnacGreatDoor
open Go.ChangeShapes Go.WideShapes Go.RowKit
theorem errT_of_six {l : List (String × DataW Unit)} (hf : l.filter (fun x => x.2.handleName?.isSome) = [("errors.errorType", Rows.laid_errors_errorType)]) {W : World} (h : laidMetH Tryz.prog l W) : ErrT W := by
 refine errT_of_laid ?_
 unfold laidMetH at h ⊢
 rw [hf] at h
 have e2 : ([("errors.errorType", Rows.laid_errors_errorType)] : List (String × DataW Unit)).filter (fun x => x.2.handleName?.isSome) = [("errors.errorType", Rows.laid_errors_errorType)] := rfl
 rw [e2]
 exact ⟨laidMet_nil _ _,h.2⟩
theorem powT_of_six {a b : String × DataW Unit} {l rest : List (String × DataW Unit)} (hf : l.filter (fun x => x.2.handleName?.isSome) = [("errors.errorType", Rows.laid_errors_errorType)])
  (hn : l.filter (fun x => x.2.handleName?.isNone) = a :: b :: ("internal/strconv.uint64pow10", Lib.tabData .u64 Lib.pow10Tab) :: rest) {W : World} (h : laidMetH Tryz.prog l W) : PowT W := by
 unfold laidMetH at h
 rw [hf] at h
 have h1:=h.1
 rw [hn] at h1
 obtain ⟨ps,⟨_,_,_,_,_,q1,_,_,_,_,⟨_,_,_,_,_,q2,_,_,_,_,⟨g',t',cs,fuel,p,q,hg',ht',hvar,hd,_,_⟩,_⟩,_⟩,_⟩:=h1
 have hg : Tryz.prog.globalNamed "internal/strconv.uint64pow10" = some 2 := by kernel_rfl
 obtain rfl:=Option.some.inj (hg.symm.trans hg')
 have hty:(Tryz.prog.globals[2]?).map (·.type)=some 302:=by kernel_rfl
 obtain rfl:=Option.some.inj (hty.symm.trans ht')
 unfold PowT Lib.TabIs
 rw [hvar,← Lib.cells_of_tab Tryz.underlying302 Tryz.underlying268 (by kernel_rfl) (by kernel_rfl) hd]
end Go.Proofs.YtddfdmopaeghnacGreatDoor
namespace Go.Proofs.YtddfdmopaeghnacGreatDoor
open Go.RowKit
noncomputable def tabWorld8 (os:Os):World :=
 let w0:=World.holding Tryz.prog os ⟨#[],#[],[]⟩
 let n:=w0.heap.size
 { w0 with heap:=(((((((((w0.heap.modify 5 fun
   | .cells _ t frozen=>.cells (Lib.deBruijn32tab.map fun n:Nat=>Value.int .u8 n).toArray t frozen
   | o=>o).modify 6 fun
   | .cells _ t frozen=>.cells (Lib.deBruijn64tab.map fun n:Nat=>Value.int .u8 n).toArray t frozen
   | o=>o).modify 2 fun
   | .cells _ t frozen=>.cells (Lib.pow10Tab.map fun n:Int=>Value.int .u64 n).toArray t frozen
   | o=>o).modify 3 fun
   | .cells _ t frozen=>.cells (Go.Pinned.utf8FirstZ.map fun n:Nat=>Value.int .u8 n).toArray t frozen
   | o=>o).modify 4 fun
   | .cells _ t frozen=>.cells (([128,191,160,191,128,159,144,191,128,143]++List.replicate 22 0).map fun n:Nat=>Value.int .u8 n).toArray t frozen
   | o=>o).modify 0 fun
   | .cells _ t frozen=>.cells #[.iface 273 (.agg #[.pointer (some ⟨9,28,none⟩)])] t frozen
   | o=>o).modify 8 fun
   | .cells _ t frozen=>.cells #[.iface 326 (.pointer (some ⟨n,0,none⟩))] t frozen
   | o=>o).modify 7 fun
   | .cells _ t frozen=>.cells #[.iface 326 (.pointer (some ⟨n+1,0,none⟩))] t frozen
   | o=>o).push (.cells #[.string ⟨#[118,97,108,117,101,32,111,117,116,32,111,102,32,114,97,110,103,101]⟩] 328 (0,0))).push (.cells #[.string ⟨#[105,110,118,97,108,105,100,32,115,121,110,116,97,120]⟩] 328 (0,0)) }
def formE (W:Int):List (List Nd)->Int
 | []=>0
 | u::r=>if oneQ u W≠0 then oneQ u W else formE W r
def formT (W:Int):List (List Nd)->ByteArray
 | []=>.empty
 | u::r=>oneX u W++formT W r
theorem formT_step (W:Int) {p:List (List Nd)} {k:Nat} {u:List Nd} (hu:p[k]?=some u):formT W (p.take (k+1))=formT W (p.take k)++oneX u W:=by
 have happ:∀ a b:List (List Nd),formT W (a++b)=formT W a++formT W b:=fun a b=>by
  induction a with
  | nil=>simp [formT]
  | cons x r ih=>simp [formT,ih,ByteArray.append_assoc]
 rw [List.take_add_one,hu,happ]
 simp [formT]
theorem formE_step (W:Int) {p:List (List Nd)} {k:Nat} {u:List Nd} (hu:p[k]?=some u) (h:formE W (p.drop k)=formE W p):(oneQ u W≠0->formE W p=oneQ u W)/\(oneQ u W=0->formE W (p.drop (k+1))=formE W p):=by
 obtain ⟨hk,rfl⟩:=List.getElem?_eq_some_iff.1 hu
 rw [List.drop_eq_getElem_cons hk,formE] at h
 constructor
 ·intro hq;rw [if_pos hq] at h;exact h.symm
 ·intro hq;rw [if_neg (by simpa using hq)] at h;exact h
def fmtF (s:ByteArray) (W:Int):Int × Nat × ByteArray :=
 if wideF W=false then (1,0,.empty)
 else if (parseF s).1≠0 then ((parseF s).1,(parseF s).2.1,.empty)
 else if formE W (parseF s).2.2≠0 then (formE W (parseF s).2.2,0,.empty)
 else (0,0,formT W (parseF s).2.2)
def FmtTo (T:ByteArray) (k:Nat) (v:Value) (w:World) (e:Ending) (w':World):Prop:=e=.returned (.tuple #[.string T,.int .i64 (k:Nat),v])/\Below w.heap.size w w'
theorem fmt_bad (s:ByteArray) (W:Int) (w:World) (hs:s.size<=maxLen) (hm:MaxL w) (h:wideF W=false∨(parseF s).1≠0) :
  Calls Tryz.prog 30 #[.string s,.int .i64 W] w (FmtTo .empty (fmtF s W).2.1 (.iface 43 (.int .i64 (fmtF s W).1)) w):=by
 have HW:=hd_ (fun w'=>wide_any W w')
 by_cases hw:wideF W=false
 ·have hr:fmtF s W=(1,0,.empty):=by rw [fmtF,if_pos hw]
  rw [hr]
  rw [hw] at HW
  clear hs hm h hw hr
  go_enter Tryz.func30,Tryz.ntmps30
  go_wp2_with (go_at_call 55;refine (HW.out _).mono ?_;rintro e w1 ⟨rfl,rfl⟩)
  go_ret3
  exact ⟨rfl,Below.refl _ _⟩
 ·have hw1:wideF W=true:=by simpa using hw
  have hf:(parseF s).1≠0:=by
   rcases h with h|h
   ·exact absurd h hw
   ·exact h
  have hr:fmtF s W=((parseF s).1,(parseF s).2.1,.empty):=by rw [fmtF,if_neg hw,if_pos hf]
  rw [hr]
  rw [hw1] at HW
  have HP:=hd_ (parse_bad hf w hs hm)
  generalize parseF s=r at *
  clear hs hm h hw hw1 hr hf
  go_enter Tryz.func30,Tryz.ntmps30
  go_wp2_with (first
   | (go_at_call 55;refine (HW.out _).mono ?_;rintro e w1 ⟨rfl,rfl⟩)
   | (go_at_call 27;refine HP.out.mono ?_;rintro e w2 ⟨A2,c2,rfl,hF,hB⟩;have HB:=hd_ hB;clear hF hB))
  go_ret3
  exact ⟨rfl,HB.out⟩
theorem fmt_any (s:ByteArray) (W:Int) (w:World) (hs:s.size<=maxLen) (hm:MaxL w) (hp:PowT w) :
  Calls Tryz.prog 30 #[.string s,.int .i64 W] w (FmtTo (fmtF s W).2.2 (fmtF s W).2.1 (errV (fmtF s W).1) w):=by
 by_cases hbad:wideF W=false∨(parseF s).1≠0
 ·have h1:=fmt_bad s W w hs hm hbad
  have h2:(fmtF s W).2.2=.empty/\(fmtF s W).1≠0:=by
   unfold fmtF
   split
   ·exact ⟨rfl,by decide⟩
   ·split
    ·rename_i hf;exact ⟨rfl,hf⟩
    ·rename_i hw hf
     rcases hbad with h|h
     ·exact absurd h hw
     ·exact absurd h hf
  rw [h2.1,← errV_pos h2.2]
  exact h1
 ·have hw:wideF W=true:=by
   cases h:wideF W with
   | true=>rfl
   | false=>exact absurd (.inl h) hbad
  have hf:(parseF s).1=0:=by
   by_cases h:(parseF s).1=0
   ·exact h
   ·exact absurd (.inr h) hbad
  have HW:=hd_ (fun w'=>wide_any W w')
  rw [hw] at HW
  have hR:fmtF s W=if formE W (parseF s).2.2≠0 then (formE W (parseF s).2.2,0,.empty) else (0,0,formT W (parseF s).2.2):=by
   rw [fmtF,if_neg (by simp [hw]),if_neg (by simp [hf])]
  have hP:=parse_ok hf w hs hm
  have htr:=progF_facts (parsed_ok hf)
  have h20:=htr.1
  have HT:=hd_ htr.2.1
  rw [hR]
  generalize (parseF s).2.2=p at *
  generalize (parseF s).2.1=k0 at *
  have HE0:Hid (formE W p=0->(if formE W p≠0 then (formE W p,0,ByteArray.empty) else ((0:Int),(0:Nat),formT W p))=(0,0,formT W p)):=hd_ (fun h=>by rw [if_neg (by simpa using h)])
  have HE1:Hid (formE W p≠0->(if formE W p≠0 then (formE W p,0,ByteArray.empty) else ((0:Int),(0:Nat),formT W p))=(formE W p,0,.empty)):=hd_ (fun h=>by rw [if_pos h])
  have HP:=hd_ hP
  have HM:=hd_ hm;have HPW:=hd_ hp
  have HSZ:Hid (∀ k,k<=p.length->(∀ j u,p[j]?=some u->j<k->oneQ u W=0)->(formT W (p.take k)).size<=1500000*k):=hd_ (fun k=>by
   induction k with
   | zero=>intro _ _;simp [formT]
   | succ k ih =>
    intro hk h
    have hlt:k<p.length:=by omega
    have hu:p[k]?=some p[k]:=List.getElem?_eq_getElem hlt
    rw [formT_step W hu,ByteArray.size_append]
    have h1:=ih (by omega) (fun j u hj hjk=>h j u hj (by omega))
    have hq:=h k p[k] hu (by omega)
    have ht:=(oneQ_zero hq).2.1
    have h2:=(oneX_is hq (fun h9=>docL_doc ht h9 (by have:=(oneQ_zero hq).2.2 h9;omega))).small
    omega)
  have hend:formE W (p.drop p.length)=formE W p->formE W p=0:=fun h=>by rw [← h,List.drop_length];rfl
  have HEND:=hd_ hend
  have HALL:Hid (∀ k,p.length<=k->formT W (p.take k)=formT W p):=hd_ (fun k hk=>by rw [List.take_of_length_le hk])
  clear hs hP hm hp hR htr hend hbad hw hf
  generalize hZ:(if formE W p≠0 then (formE W p,0,ByteArray.empty) else ((0:Int),(0:Nat),formT W p))=Z at *
  clear hZ
  go_enter Tryz.func30,Tryz.ntmps30
  go_wp2_with (first
   | (go_at_call 55;refine (HW.out _).mono ?_;rintro e w0 ⟨rfl,rfl⟩)
   | (go_at_call 27;refine HP.out.mono ?_;rintro e w1 ⟨P1,c1,rfl,hF,hB1⟩;have HPR:=hd_ hF.prg;have HB1:=hd_ hB1;clear hF hB1))
  have hb1:Below w1.heap.size w1 (w1.alloc (.cells #[.pointer none,.slice none 0 0] 104)):=(Below.refl _ _).alloc (Nat.le_refl _) _
  have HBD:Hid (Bld w1.heap.size w1.heap.size .empty (w1.alloc (.cells #[.pointer none,.slice none 0 0] 104))):=hd_ (Bld.new w1)
  have hz1:=HB1.out.size
  have HB0:=hd_ hb1
  clear hb1
  go_loopw [10,11,12,29] (fun _ _ _ i wr=>∃ k:Nat,k<=p.length/\i=.int .i64 k/\Hid (formE W (p.drop k)=formE W p/\∀ j u,p[j]?=some u->j<k->oneQ u W=0)/\Hid (Bld w1.heap.size w1.heap.size (formT W (p.take k)) wr)/\Hid (Below w1.heap.size w1 wr)) (fun _ _ _ i _=>p.length-(intOf i).toNat)
  case atStart=>exact ⟨0,by omega,rfl,hd_ ⟨rfl,fun j u hj hjk=>by omega⟩,HBD,HB0⟩
  case round =>
   clear HBD HB0
   obtain ⟨k,hk,rfl,HA,HBD,HB0⟩:=hrel
   by_cases hlt:k<p.length
   ·obtain ⟨b,off,Ak,ck,u,rfl,hb,hu,hc,hN,hS⟩:=HPR.out.one HB0.out hlt
    have hmem:u ∈ p:=List.mem_of_getElem? hu
    have hut:=HT.out u hmem
    have HB01:=hd_ (HB1.out.trans (HB0.out.mono hz1))
    obtain ⟨e1,e2⟩:=formE_step W hu HA.out.1
    by_cases hq:oneQ u W=0
    ·have hdc:opAt u 0≠9->∃ x,Doc (docL u) x:=fun h9=>docL_doc hut h9 (by have:=(oneQ_zero hq).2.2 h9;omega)
     have HONE:=hd_ (pone_ok (fun l x A c w hl hd=>of_from l x A c w hl hd) u W Ak ck wr hN hS (HM.out.past HB01.out) (HPW.out.past HB01.out) hdc hq)
     have hsm:=(oneX_is hq hdc).small
     have HST:=hd_ (formT_step W hu)
     have HA2:Hid (formE W (p.drop (k+1))=formE W p/\∀ j v,p[j]?=some v->j<k+1->oneQ v W=0):=hd_ ⟨e2 hq,fun j v hj hjk=>by
      by_cases hjk2:j=k
      ·subst hjk2;rw [hu] at hj;cases hj;exact hq
      ·exact HA.out.2 j v hj (by omega)⟩
     have hks:=HSZ.out k hk HA.out.2
     generalize formT W (p.take k)=Q at *
     generalize oneX u W=T at *
     have hz0:=HB0.out.size
     clear hN hS hu hmem hut e1 e2 hq hdc HA
     go_wp2_with (first
      | (go_at_call 19;refine HONE.out.mono ?_;rintro e w3 ⟨rfl,hB3⟩;have HB3:=hd_ (HBD.out.past hB3);have HB4:=hd_ (HB0.out.trans (hB3.mono hz0));clear hB3)
      | (go_at_call 47;refine (bld_write _ _ Q _ _ HB3.out (by omega)).mono ?_;rintro e w4 ⟨rfl,hb5,hB5⟩;have HB5:=hd_ hb5;have HB6:=hd_ (HB4.out.trans hB5);clear hb5 hB5))
     go_roundw
     case measure=>simp [intOf];omega
     case rel=>exact ⟨k+1,by omega,by go_num,HA2,hd_ (by rw [HST.out];exact HB5.out),HB6⟩
    ·have HONE:=hd_ (pone_bad u W Ak ck wr hN hS (HM.out.past HB01.out) (HPW.out.past HB01.out) hq)
     have hfe:=e1 hq
     have hzz:=HE1.out (by rw [hfe];exact hq)
     subst hzz
     have HV:=hd_ (errV_pos hq)
     rw [hfe]
     generalize oneQ u W=q at *
     clear hN hS hu hmem hut e1 e2 HA
     go_wp2_with (go_at_call 19;refine HONE.out.mono ?_;rintro e w3 ⟨rfl,hB3⟩;have HB4:=hd_ (HB01.out.trans (hB3.mono HB01.out.size));clear hB3)
     go_ret3
     exact ⟨by rw [← HV.out];rfl,HB4.out⟩
   ·have hkp:k=p.length:=by omega
    have h0:=HEND.out (by have:=HA.out.1;rwa [hkp] at this)
    have hzz:=HE0.out h0
    subst hzz
    have HBZ:Hid (Bld w1.heap.size w1.heap.size (formT W p) wr):=hd_ (by rw [← HALL.out k (by omega)];exact HBD.out)
    generalize formT W p=TT at *
    clear HBD
    go_wp2_with (go_at_call 49;refine (bld_string _ _ _ _ HBZ.out).mono ?_;rintro e w5 ⟨rfl,hB5⟩;have HB7:=hd_ (HB1.out.trans ((HB0.out.trans hB5).mono hz1));clear hB5)
    go_ret3
    exact ⟨rfl,HB7.out⟩
def OneRef (l:List Nd) (W:Int) (w:World) (e:Ending) (w':World):Prop:=Below w.heap.size w w' /\
 (e=.returned (.tuple #[.string (if oneQ l W=0 then oneX l W else .empty),.int .i64 (oneQ l W),.bool true])∨∃ T:ByteArray,e=.returned (.tuple #[.string T,.int .i64 0,.bool false]))
theorem fillW_nil {W:Int} {l:List ByteArray}:fillW W l=[]↔l=[]:=by
 cases l with
 | nil=>exact ⟨fun _=>rfl,fun _=>rfl⟩
 | cons a r =>
  constructor
  ·intro h
   unfold fillW linesAt at h
   simp [linesG] at h
  ·intro h;cases h
theorem oneof_any (l:List Nd) (W:Int) (A:Option Addr) (c:Nat) (w:World) (hl:Nds w w.heap.size A l) (hsh:Short l) (ht:treeF l=0) (hw:wideF W=true) :
  Calls Tryz.prog 37 #[.slice A l.length c,.int .i64 W] w (OneRef l W w):=by
 obtain ⟨w1,w2⟩:=wideF_iff.1 hw
 by_cases h9:opAt l 0=9
 ·obtain ⟨x,rfl,h1⟩:=tree_note ht h9
  obtain ⟨hfew,-⟩:=note_few h1 hw
  have hq:oneQ [⟨9,x,0⟩] W=0:=by rw [oneQ,if_neg (by simp [hw]),if_neg (by simp [ht]),if_pos h9]
  have hx:oneX [⟨9,x,0⟩] W=noteT x W:=by rw [oneX,if_pos h9];rfl
  unfold OneRef
  rw [hq,if_pos rfl,hx]
  have hsz:x.size<4294967281:=hsh ⟨9,x,0⟩ (by simp)
  have HNW:=hd_ (fun w'=>noteWords_cap x w' hsz)
  unfold NoteToC at HNW
  have k1:IntKind.i64.wrap (W-2)=W-2:=IntWalk.i64_in _ (by omega)
  have HF:=hd_ (fun A1 c1 w' hcap hl'=>fillOf_ok (noteL x) A1 _ c1 rfl hcap (W-2) w' hl' hfew)
  unfold FillRef at HF
  have hnt:noteT x W=if fillW (W-2) (noteL x)=[] then ⟨#[35,10]⟩ else noteB (fillW (W-2) (noteL x)):=by
   unfold noteT
   by_cases h:noteL x=[]
   ·rw [if_pos h,if_pos (fillW_nil.2 h)]
   ·rw [if_neg h,if_neg (fun hh=>h (fillW_nil.1 hh))]
  obtain ⟨hl60,hls⟩:=hfew.fill_small
  generalize fillW (W-2) (noteL x)=L at *
  have HNT:=hd_ hnt
  have HSTEP:=hd_ (fun k (hk:k<L.length)=>noteB_step hk)
  have HSZ:Hid (∀ k,(noteB (L.take k)).size<=80000):=hd_ (fun k=>by
   have h:=noteB_size (l:=L.take k) (fun u hu=>hls u (List.mem_of_mem_take hu))
   have h3:(L.take k).length<=60:=by rw [List.length_take];omega
   omega)
  have HE:Hid (∀ k,L.length<=k->noteB (L.take k)=noteB L):=hd_ (fun k hk=>by rw [List.take_of_length_le hk])
  have HLS:=hd_ hls
  obtain ⟨b,off,op,t,n,rfl,hb,ho,hnd,hts,d1,d2⟩:=hl.head0 (by simp)
  obtain ⟨e1,e2,e3⟩:op=9/\t=x/\n=0:=by
   have h:(⟨9,x,0⟩:Nd)=⟨op,t,n⟩:=hnd
   injection h with h1 h2 h3
   exact ⟨h1.symm,h2.symm,h3.symm⟩
  subst e1 e2 e3
  clear hl hsh ho hnd h9 hq hx hfew h1 ht hnt hls
  go_enter Tryz.func37,Tryz.ntmps37
  go_wp2_with (first
   | (go_at_call 59;refine (HNW.out _).mono ?_;rintro e w1 ⟨A1,c1,rfl,hT1,hB1,hcap1⟩;have HT:=hd_ hT1;have HB:=hd_ hB1;have HCAP:=hd_ hcap1;have hz1:=hB1.size;clear hB1 hT1 hcap1)
   | (go_at_call 75;refine (HF.out A1 c1 _ HCAP.out HT.out).mono ?_;rintro e w2 ⟨A2,c2,rfl,hT2,hB2⟩;have HT2:=hd_ hT2;have HB:=hd_ (HB.out.trans (hB2.mono hz1));clear hB2 hT2))
  go_loopw [8,9] (fun v i wr=>∃ k:Nat,k<=L.length/\i=.int .i64 (k:Nat)/\v=.string (noteB (L.take k))/\wr=w2) (fun _ i _=>L.length-(intOf i).toNat)
  case atStart=>exact ⟨0,by omega,rfl,rfl,rfl⟩
  case round =>
   obtain ⟨k,hk,rfl,rfl,rfl⟩:=hrel
   by_cases hlt:k<L.length
   ·have d3:decide ((k:Int)<(L.length:Int))=true:=decide_eq_true (by omega)
    obtain ⟨b6,o6,u6,rfl,hb6,hu6,hc6⟩:=HT2.out.1.one (k:=k) hlt
    have hu:u6=.string L[k]:=by rw [List.getElem?_map,List.getElem?_eq_getElem hlt] at hu6;simpa using hu6.symm
    subst hu
    have hst:=HSTEP.out k hlt
    have hs1:=HSZ.out k
    have hs2:=HLS.out L[k] (List.getElem_mem hlt)
    have HST:Hid (noteB (L.take k)++⟨#[35,32]⟩++L[k]++⟨#[10]⟩=noteB (L.take (k+1))):=hd_ (by rw [hst];simp only [ByteArray.append_assoc])
    clear hst hu6
    generalize noteB (L.take k)=t1 at *
    generalize L[k]=u at *
    go_wp2
    go_roundw
    case measure=>exact mea_
    case rel=>exact ⟨k+1,hlt,by first|go_num|rfl,by rw [← HST.out],by first|rfl|trivial⟩
   ·have hke:k=L.length:=by omega
    have d3:decide ((k:Int)<(L.length:Int))=false:=decide_eq_false (by omega)
    rw [HE.out k (by omega)]
    by_cases h0:L=[]
    ·have HR:Hid (noteT t W=⟨#[35,10]⟩):=hd_ (by rw [HNT.out,if_pos h0])
     have d4:((L.length:Int)==0)=true:=by rw [h0];rfl
     clear h0
     generalize noteB L=Z at *
     go_wp2
     refine bodyPost_ret (v:=.tuple #[.string ⟨#[35,10]⟩,.int .i64 0,.bool true]) (by simp [results,Tryz.results37,go_sem]) rfl ?_
     rw [HR.out]
     exact ⟨HB.out,.inl rfl⟩
    ·have HR:Hid (noteT t W=noteB L):=hd_ (by rw [HNT.out,if_neg h0])
     have d4:((L.length:Int)==0)=false:=by
      rw [beq_eq_false_iff_ne]
      intro e
      exact h0 (List.eq_nil_of_length_eq_zero (by omega))
     clear h0
     generalize noteB L=Z at *
     go_wp2
     refine bodyPost_ret (v:=.tuple #[.string Z,.int .i64 0,.bool true]) (by simp [results,Tryz.results37,go_sem]) rfl ?_
     rw [HR.out]
     exact ⟨HB.out,.inl rfl⟩
 ·have h0:=(Tr.of_check ht).pos0
  have hq3:oneQ l W=if 400<(docL l).length then 3 else 0:=by rw [oneQ,if_neg (by simp [hw]),if_neg (by simp [ht]),if_neg h9]
  have hx:oneX l W=bT W.toNat (docAt (docL l) 0)++⟨#[10]⟩:=by rw [oneX,if_neg h9]
  have hDOC:=docL_doc ht h9
  unfold OneRef
  rw [hq3,hx]
  have HDO0:=hd_ (fun A=>rdoc_any (A:=A) (c:=c) (Tr.of_check ht) l.length 0 0 w rfl)
  have hd9:=doc_small (Tr.of_check ht) (f:=l.length) (by omega) h0 h9
  rw [show docT l l.length 0=docL l from rfl] at hd9
  obtain ⟨b,off,op,t,n,rfl,hb,ho,hnd,hts,d1,d2⟩:=hl.head0 h0
  have ho9:(op==9)=false:=by rw [← ho];simpa using h9
  have HDO:=hd_ (HDO0.out (some ⟨b,off,none⟩) hl h0 (by omega) h9)
  rw [show docT l l.length 0=docL l from rfl] at HDO
  obtain ⟨WN,hWN⟩:∃ n:Nat,W=(n:Nat):=⟨W.toNat,by omega⟩
  subst hWN
  rw [show ((WN:Nat):Int).toNat=WN from rfl]
  generalize docL l=d at *
  clear hl hsh ht ho hnd h9 hq3 hx HDO0
  by_cases h4:400<d.length
  ·have d4:decide ((d.length:Int)>400)=true:=decide_eq_true (by omega)
   rw [if_pos h4]
   clear hDOC
   go_enter Tryz.func37,Tryz.ntmps37
   go_wp2_with (go_at_call 62;refine HDO.out.mono ?_;rintro e w2 ⟨A2,c2,rfl,hn,hB⟩;have HB:=hd_ hB;clear hB hn)
   refine bodyPost_ret (v:=.tuple #[.string ⟨#[]⟩,.int .i64 3,.bool true]) (by simp [results,Tryz.results37,go_sem]) rfl ?_
   exact ⟨HB.out,.inl rfl⟩
  ·have d4:decide ((d.length:Int)>400)=false:=decide_eq_false (by omega)
   rw [if_neg h4,if_pos rfl]
   obtain ⟨x,hxd⟩:=hDOC (by omega)
   have HBO:=hd_ (fun A2 c2 (w':World) h=>bestof_any hxd A2 d.length c2 rfl WN w' h)
   have hr:=hxd.root
   have hs:=(hxd.best_shown WN).size
   rw [hr]
   unfold BestRef at HBO
   clear hDOC hxd hr
   generalize bT WN x=T at *
   go_enter Tryz.func37,Tryz.ntmps37
   go_upto_region 14 with (go_at_call 62;refine HDO.out.mono ?_;rintro e w2 ⟨A2,c2,rfl,hn,hB⟩;have HX:=hd_ hn.1;have HB:=hd_ hB;clear hB hn)
   go_upto_region 15 with (go_at_call 76;refine (HBO.out A2 c2 _ HX.out).mono ?_;rintro e w3 ⟨hB3,hres⟩;have HB:=hd_ (HB.out.trans (hB3.mono HB.out.size));clear hB3;rcases hres with ⟨A3,c3,rfl,hn3,hs3⟩|rfl)
   ·have hz3:=HB.out.size
    have hB:=HB.out
    clear HBO HDO
    go_wp2
    refine bodyPost_ret (v:=.tuple #[.string (T++⟨#[10]⟩),.int .i64 0,.bool true]) (by simp [results,Tryz.results37,go_sem]) rfl ?_
    exact ⟨bel_,.inl rfl⟩
   ·have hz3:=HB.out.size
    have hB:=HB.out
    clear HBO HDO
    go_wp2
    refine bodyPost_ret (v:=.tuple #[.string ⟨#[10]⟩,.int .i64 0,.bool false]) (by simp [results,Tryz.results37,go_sem]) rfl ?_
    exact ⟨bel_,.inr ⟨_,rfl⟩⟩
def LinesRef (p:List (List Nd)) (W:Int) (w:World) (e:Ending) (w':World):Prop:=Below w.heap.size w w' /\
 (e=.returned (.tuple #[.string (if formE W p=0 then formT W p else .empty),.int .i64 (formE W p),.bool true])∨∃ k:Int,e=.returned (.tuple #[.string .empty,.int .i64 k,.bool false]))
theorem fq110 {P:Prop} (h:P:=by
 ·go_wp2
  refine bodyPost_ret (v:=.tuple #[.string ⟨#[]⟩,.int .i64 0,.bool false]) (by simp [results,Tryz.results38,go_sem]) rfl ?_
  exact ⟨HB3.out,.inr ⟨_,rfl⟩⟩):P:=h
theorem linesof_any (p:List (List Nd)) (W:Int) (n:Nat) (hn:p.length=n) (P:Option Addr) (cp:Nat) (w:World) (hp:Prg w w.heap.size P p) (hT:∀ u ∈ p,treeF u=0) (h20:n<=20) (hw:wideF W=true) :
  Calls Tryz.prog 38 #[.slice P n cp,.int .i64 W] w (LinesRef p W w):=by
 unfold LinesRef
 have HPR:=hd_ hp;have HT:=hd_ hT;have HN:=hd_ hn;have HW:=hd_ hw
 have HSZ:Hid (∀ k,k<=p.length->(∀ j u,p[j]?=some u->j<k->oneQ u W=0)->(formT W (p.take k)).size<=1500000*k):=hd_ (fun k=>by
  induction k with
  | zero=>intro _ _;simp [formT]
  | succ k ih =>
   intro hk h
   have hlt:k<p.length:=by omega
   have hu:p[k]?=some p[k]:=List.getElem?_eq_getElem hlt
   rw [formT_step W hu,ByteArray.size_append]
   have h1:=ih (by omega) (fun j u hj hjk=>h j u hj (by omega))
   have hq:=h k p[k] hu (by omega)
   have ht:=(oneQ_zero hq).2.1
   have h2:=(oneX_is hq (fun h9=>docL_doc ht h9 (by have:=(oneQ_zero hq).2.2 h9;omega))).small
   omega)
 have hend:formE W (p.drop p.length)=formE W p->formE W p=0:=fun h=>by rw [← h,List.drop_length];rfl
 have HEND:=hd_ hend
 have HALL:Hid (∀ k,p.length<=k->formT W (p.take k)=formT W p):=hd_ (fun k hk=>by rw [List.take_of_length_le hk])
 obtain ⟨Z,hZ⟩:∃ Z,(if formE W p=0 then formT W p else ByteArray.empty)=Z:=⟨_,rfl⟩
 have HZ0:Hid (formE W p=0->Z=formT W p):=hd_ (fun h=>by rw [← hZ,if_pos h])
 have HZ1:Hid (formE W p≠0->Z=⟨#[]⟩):=hd_ (fun h=>by rw [← hZ,if_neg h];rfl)
 rw [hZ]
 clear hp hT hn hend hw hZ
 go_enter Tryz.func38,Tryz.ntmps38
 go_wp2
 go_loopw [7,8,9,10,11] (fun s i _ _ _ wr=>∃ k:Nat,k<=n/\i=.int .i64 k/\s=.string (formT W (p.take k))/\Hid (formE W (p.drop k)=formE W p/\∀ j u,p[j]?=some u->j<k->oneQ u W=0)/\Hid (Below w.heap.size w wr)) (fun _ i _ _ _ _=>n-(intOf i).toNat)
 case atStart=>exact ⟨0,by omega,rfl,by rw [List.take_zero,formT];rfl,hd_ ⟨rfl,fun j u hj hjk=>by omega⟩,hd_ (Below.refl _ _)⟩
 case round =>
  obtain ⟨k,hk,rfl,rfl,HA,HB⟩:=hrel
  by_cases hlt:k<n
  ·obtain ⟨b,off,Ak,ck,u,rfl,hb,hu,hc,hN,hS⟩:=HPR.out.one HB.out (k:=k) (by rw [HN.out];exact hlt)
   have hut:=HT.out u (List.mem_of_getElem? hu)
   have HONE:=hd_ (oneof_any u W Ak ck wr hN hS hut HW.out)
   unfold OneRef at HONE
   obtain ⟨e1,e2⟩:=formE_step W hu HA.out.1
   by_cases hq:oneQ u W=0
   ·have hdc:opAt u 0≠9->∃ x,Doc (docL u) x:=fun h9=>docL_doc hut h9 (by have:=(oneQ_zero hq).2.2 h9;omega)
    rw [if_pos hq,hq] at HONE
    have hsm:=(oneX_is hq hdc).small
    have HST:=hd_ (formT_step W hu)
    have HA2:Hid (formE W (p.drop (k+1))=formE W p/\∀ j v,p[j]?=some v->j<k+1->oneQ v W=0):=hd_ ⟨e2 hq,fun j v hj hjk=>by
     by_cases hjk2:j=k
     ·subst hjk2;rw [hu] at hj;cases hj;exact hq
     ·exact HA.out.2 j v hj (by omega)⟩
    have hks:=HSZ.out k (by rw [HN.out];exact hk) HA.out.2
    have hk20:1500000*k<=30000000:=by omega
    generalize formT W (p.take k)=Q at *
    generalize oneX u W=X at *
    clear hN hS hu hut e1 e2 hq hdc HA
    go_upto_region 6 with (go_at_call 37;refine HONE.out.mono ?_;rintro e w3 ⟨hB3,hr3⟩;have HB3:=hd_ (HB.out.trans (hB3.mono HB.out.size));clear hB3;rcases hr3 with rfl|⟨T3,rfl⟩)
    ·go_wp2
     go_roundw
     case measure=>simp [intOf];omega
     case rel=>exact ⟨k+1,by omega,by go_num,by rw [HST.out],HA2,HB3⟩
    exact fq110
   ·have hfe:=e1 hq
    rw [if_neg hq] at HONE
    have hz:=HZ1.out (by rw [hfe];exact hq)
    subst hz
    have HFE:=hd_ hfe
    have d1:(oneQ u W==0)=false:=beq_eq_false_iff_ne.2 hq
    have d2:decide (oneQ u W=0)=false:=decide_eq_false hq
    generalize oneQ u W=q at *
    clear hN hS hu hut e1 e2 HA hfe
    go_upto_region 6 with (go_at_call 37;refine HONE.out.mono ?_;rintro e w3 ⟨hB3,hr3⟩;have HB3:=hd_ (HB.out.trans (hB3.mono HB.out.size));clear hB3;rcases hr3 with rfl|⟨T3,rfl⟩)
    ·go_wp2
     refine bodyPost_ret (v:=.tuple #[.string ⟨#[]⟩,.int .i64 q,.bool true]) (by simp [results,Tryz.results38,go_sem]) rfl ?_
     exact ⟨HB3.out,.inl (by rw [HFE.out])⟩
    exact fq110
  ·have hkp:k=p.length:=by rw [HN.out];omega
   have h0:=HEND.out (by have:=HA.out.1;rwa [hkp] at this)
   have hz:=HZ0.out h0
   subst hz
   rw [HALL.out k (by omega)]
   have HFE:=hd_ h0
   obtain ⟨TT,hTT⟩:∃ t,formT W p=t:=⟨_,rfl⟩
   rw [hTT]
   have HTT:=hd_ hTT
   clear hTT HALL HEND HA h0 HZ0 HZ1
   go_wp2
   refine bodyPost_ret (v:=.tuple #[.string TT,.int .i64 0,.bool true]) (by simp [results,Tryz.results38,go_sem]) rfl ?_
   exact ⟨HB.out,.inl (by rw [HFE.out,HTT.out])⟩
theorem fq109 {P:Prop} (h:P:=by
 go_enter Tryz.func36,Tryz.ntmps36
 go_wp2
 go_ret
 exact ⟨by first|rfl|(simp;done)|(simp;omega),rfl⟩):P:=h
theorem rwide_any (W:Int) (w:World):Calls Tryz.prog 36 #[.int .i64 W] w fun e w'=>e=.returned (.bool (wideF W))/\w=w':=by
 by_cases h1:10<=W
 ·by_cases h2:W<=100
  ·have hr:wideF W=true:=by simp [wideF,h1,h2]
   rw [hr]
   exact fq109
  ·have hr:wideF W=false:=by simp [wideF,h2]
   rw [hr]
   exact fq109
 ·have hr:wideF W=false:=by simp [wideF,h1]
  rw [hr]
  have h3:decide (W≥10)=false:=decide_eq_false h1
  exact fq109
theorem parse_place {s:ByteArray} {k:Nat} {l:List (List Nd)} (h:parseF s=(0,k,l)):k=0:=by
 unfold parseF at h
 split at h
 ·rename_i h1;simp only [Prod.mk.injEq] at h;omega
 ·split at h
  ·simp only [Prod.mk.injEq] at h;omega
  ·split at h
   ·simp only [Prod.mk.injEq] at h;exact h.2.1.symm
   ·simp only [Prod.mk.injEq] at h;omega
theorem parseof_f {s:ByteArray} {f:Int} {k n:Nat} {l:List (List Nd)} (h:parseF s=(f,k,l)) (hn:l.length=n) (w:World) (hs:s.size<=maxLen):Calls Tryz.prog 26 #[.string s] w fun e w'=>∃ A c,e=.returned (.tuple #[.slice A n c,.int .i64 (k:Nat),.int .i64 f])/\PrgF w.heap.size w' A l/\Below w.heap.size w w':=by
 have:=parseof_any s w hs
 unfold ParRef at this
 rw [h] at this
 subst hn
 exact this
theorem fq107 {P:Prop} (h:P:=by
 go_enter Tryz.func11,Tryz.ntmps11
 go_upto_region 10 with (first
  | (go_at_call 36;(fail_if_success have z:=T0);refine (HWI.out _).mono ?_;rintro e w0 ⟨rfl,rfl⟩;have T0:=hd_ True.intro)
  | (go_at_call 20;(fail_if_success have z:=T1);refine (HTF.out _ HB.out).mono ?_;rintro e w1 ⟨rfl,hB⟩;have HB:=hd_ (HB.out.trans (hB.mono HB.out.size));have T1:=hd_ True.intro;clear hB)
  | (go_at_call 37;(fail_if_success have z:=T2);refine (HOO.out _ HB.out).mono ?_;rintro e w2 ⟨hB,hr2⟩;have HB:=hd_ (HB.out.trans (hB.mono HB.out.size));have T2:=hd_ True.intro;clear hB;rcases hr2 with rfl|⟨T2x,rfl⟩))
 ·go_upto_region 29 with (first
  | (go_at_call 19;(fail_if_success have z:=T3);refine (HPN.out _ HB.out).mono ?_;rintro e w3 ⟨rfl,hB⟩;have HB:=hd_ (HB.out.trans (hB.mono HB.out.size));have T3:=hd_ True.intro;clear hB)
  | (go_at_call 25;(have z:=T3;clear z);(fail_if_success have z:=T4);refine (HE1.out _ HB.out).mono ?_;rintro e w4 ⟨rfl,hB⟩;have HB:=hd_ (HB.out.trans (hB.mono HB.out.size));have T4:=hd_ True.intro;clear hB)
  | (go_at_call 26;(fail_if_success have z:=T5);refine (HRP.out _ HB.out).mono ?_;rintro e w5 ⟨A5,c5,rfl,hF,hB⟩;have HX:=hd_ hF;have HB:=hd_ (HB.out.trans (hB.mono HB.out.size));have T5:=hd_ True.intro;clear hF hB)
  | (go_at_call 38;(fail_if_success have z:=T6);refine (HLO.out A5 c5 _ HX.out.prg).mono ?_;rintro e w6 ⟨hB,hr6⟩;have HB:=hd_ (HB.out.trans (hB.mono HB.out.size));have T6:=hd_ True.intro;clear hB;rcases hr6 with rfl|⟨k6x,rfl⟩))
  ·go_wp2_with (first
  | (go_at_call 30;(fail_if_success have z:=T7);refine (HPF.out _ HB.out).mono ?_;rintro e w7 ⟨rfl,hB⟩;have HB:=hd_ (HB.out.trans (hB.mono HB.out.size));have T7:=hd_ True.intro;clear hB)
  | (go_at_call 25;(have z:=T7;clear z);refine (HE2.out _ HB.out).mono ?_;rintro e w8 ⟨rfl,hB⟩;have HB:=hd_ (HB.out.trans (hB.mono HB.out.size));clear hB))
   go_ret
   exact ⟨by first|rfl|(simp;done),HB.out⟩
  ·go_wp2
   go_ret
   exact ⟨by first|rfl|(simp;done),HB.out⟩
 ·go_wp2
  go_ret
  exact ⟨by first|rfl|(simp;done),HB.out⟩):P:=h
theorem fq106 {P:Prop} (h:P:=by
 by_cases hf6:f6=0
 ·subst hf6
  obtain rfl:k6=0:=parse_place hs6
  have hx6:=progF_facts (by have:=parsed_ok (s:=s) (by rw [hs6]);rwa [hs6] at this:(progF x6).2=0)
  have HLO:Hid (∀ (A:Option Addr) (c:Nat) w',Prg w' w'.heap.size A x6->Calls Tryz.prog 38 #[.slice A n6 c,.int .i64 W] w' (fun e w''=>Below w'.heap.size w' w''/\(e=.returned (.tuple #[.string Z6,.int .i64 E6,.bool true])∨∃ k:Int,e=.returned (.tuple #[.string ⟨#[]⟩,.int .i64 k,.bool false])))):=hd_ (fun A c w' h=>by have:=linesof_any x6 W n6 hn6 A c w' h hx6.2.1 (by rw [← hn6];exact hx6.1) hw;unfold LinesRef at this;rw [hE6,hZ6] at this;exact this)
  by_cases hq6:E6=0
  ·subst hq6
   have hz6:Z6=formT W x6:=by rw [← hZ6,if_pos rfl]
   have HPF:Hid (∀ w',Below w.heap.size w w'->Calls Tryz.prog 30 #[.string s,.int .i64 W] w' fun e w''=>e=.returned (.tuple #[.string Z6,.int .i64 (0:Nat),.nilIface])/\Below w'.heap.size w' w''):=hd_ (fun w' hB=>by have:=fmt_any s W w' HSS.out (HM.out.past hB) (HPW.out.past hB);unfold FmtTo at this;rw [show fmtF s W=(0,0,Z6) by rw [fmtF,hs6,if_neg (by simp [hw]),if_neg (by simp),if_neg (by simp [hE6]),hz6],← errV_zero rfl] at this;exact this)
   have HE2:Hid (∀ w',Below w.heap.size w w'->Calls Tryz.prog 25 #[.nilIface,.int .i64 0] w' (Ret w' (.bool true))):=hd_ (fun w' hB=>error_nil w' (HG.out.past hgs hB) (Nat.le_trans hgs hB.size))
   clear hs6 hn6 hx6 hE6 hZ6 hz6 hw
   exact fq107
  ·have hz6:Z6=⟨#[]⟩:=by rw [← hZ6,if_neg hq6];rfl
   subst hz6
   have d6:(E6==0)=false:=beq_eq_false_iff_ne.2 hq6
   have d7:decide (E6=0)=false:=decide_eq_false hq6
   have HPF:Hid (∀ w',Below w.heap.size w w'->Calls Tryz.prog 30 #[.string s,.int .i64 W] w' fun e w''=>e=.returned (.tuple #[.string ⟨#[]⟩,.int .i64 (0:Nat),(.iface 43 (.int .i64 E6))])/\Below w'.heap.size w' w''):=hd_ (fun w' hB=>by have:=fmt_any s W w' HSS.out (HM.out.past hB) (HPW.out.past hB);unfold FmtTo at this;rw [show fmtF s W=(E6,0,.empty) by rw [fmtF,hs6,if_neg (by simp [hw]),if_neg (by simp),if_pos (by rw [hE6];exact hq6),hE6],← errV_pos hq6] at this;exact this)
   have HE2:Hid (∀ w',Below w.heap.size w w'->Calls Tryz.prog 25 #[.iface 43 (.int .i64 E6),.int .i64 E6] w' (Ret w' (.bool true))):=hd_ (fun w' hB=>error_same _ hq6 w' (HG.out.past hgs hB) (Nat.le_trans hgs hB.size))
   clear hs6 hn6 hx6 hE6 hZ6 hw hq6
   exact fq107
 ·have d6:(f6==0)=false:=beq_eq_false_iff_ne.2 hf6
  have d7:decide (f6=0)=false:=decide_eq_false hf6
  have HPF:Hid (∀ w',Below w.heap.size w w'->Calls Tryz.prog 30 #[.string s,.int .i64 W] w' fun e w''=>e=.returned (.tuple #[.string ⟨#[]⟩,.int .i64 (k6:Nat),(.iface 43 (.int .i64 f6))])/\Below w'.heap.size w' w''):=hd_ (fun w' hB=>by have:=fmt_any s W w' HSS.out (HM.out.past hB) (HPW.out.past hB);unfold FmtTo at this;rw [show fmtF s W=(f6,k6,.empty) by rw [fmtF,hs6,if_neg (by simp [hw]),if_pos hf6],← errV_pos hf6] at this;exact this)
  have HE2:Hid (∀ w',Below w.heap.size w w'->Calls Tryz.prog 25 #[.iface 43 (.int .i64 f6),.int .i64 f6] w' (Ret w' (.bool true))):=hd_ (fun w' hB=>error_same _ hf6 w' (HG.out.past hgs hB) (Nat.le_trans hgs hB.size))
  clear hs6 hn6 hE6 hZ6 hw hf6
  go_enter Tryz.func11,Tryz.ntmps11
  go_upto_region 10 with (first
   | (go_at_call 36;(fail_if_success have z:=T0);refine (HWI.out _).mono ?_;rintro e w0 ⟨rfl,rfl⟩;have T0:=hd_ True.intro)
   | (go_at_call 20;(fail_if_success have z:=T1);refine (HTF.out _ HB.out).mono ?_;rintro e w1 ⟨rfl,hB⟩;have HB:=hd_ (HB.out.trans (hB.mono HB.out.size));have T1:=hd_ True.intro;clear hB)
   | (go_at_call 37;(fail_if_success have z:=T2);refine (HOO.out _ HB.out).mono ?_;rintro e w2 ⟨hB,hr2⟩;have HB:=hd_ (HB.out.trans (hB.mono HB.out.size));have T2:=hd_ True.intro;clear hB;rcases hr2 with rfl|⟨T2x,rfl⟩))
  ·go_wp2_with (first
   | (go_at_call 19;(fail_if_success have z:=T3);refine (HPN.out _ HB.out).mono ?_;rintro e w3 ⟨rfl,hB⟩;have HB:=hd_ (HB.out.trans (hB.mono HB.out.size));have T3:=hd_ True.intro;clear hB)
   | (go_at_call 25;(have z:=T3;clear z);(fail_if_success have z:=T4);refine (HE1.out _ HB.out).mono ?_;rintro e w4 ⟨rfl,hB⟩;have HB:=hd_ (HB.out.trans (hB.mono HB.out.size));have T4:=hd_ True.intro;clear hB)
   | (go_at_call 26;(fail_if_success have z:=T5);refine (HRP.out _ HB.out).mono ?_;rintro e w5 ⟨A5,c5,rfl,hF,hB⟩;have HX:=hd_ hF;have HB:=hd_ (HB.out.trans (hB.mono HB.out.size));have T5:=hd_ True.intro;clear hF hB)
   | (go_at_call 30;(fail_if_success have z:=T7);refine (HPF.out _ HB.out).mono ?_;rintro e w7 ⟨rfl,hB⟩;have HB:=hd_ (HB.out.trans (hB.mono HB.out.size));have T7:=hd_ True.intro;clear hB)
   | (go_at_call 25;(have z:=T7;clear z);refine (HE2.out _ HB.out).mono ?_;rintro e w8 ⟨rfl,hB⟩;have HB:=hd_ (HB.out.trans (hB.mono HB.out.size));clear hB))
   go_ret
   exact ⟨by first|rfl|(simp;done),HB.out⟩
  ·go_wp2
   go_ret
   exact ⟨by first|rfl|(simp;done),HB.out⟩):P:=h
theorem fq108 {P:Prop} (h:P:=by
 go_enter Tryz.func11,Tryz.ntmps11
 go_upto_region 20 with (first
  | (go_at_call 36;(fail_if_success have z:=T0);refine (HWI.out _).mono ?_;rintro e w0 ⟨rfl,rfl⟩;have T0:=hd_ True.intro)
  | (go_at_call 20;(fail_if_success have z:=T1);refine (HTF.out _ HB.out).mono ?_;rintro e w1 ⟨rfl,hB⟩;have HB:=hd_ (HB.out.trans (hB.mono HB.out.size));have T1:=hd_ True.intro;clear hB)
  | (go_at_call 19;(fail_if_success have z:=T3);refine (HPN.out _ HB.out).mono ?_;rintro e w3 ⟨rfl,hB⟩;have HB:=hd_ (HB.out.trans (hB.mono HB.out.size));have T3:=hd_ True.intro;clear hB)
  | (go_at_call 25;(have z:=T3;clear z);(fail_if_success have z:=T4);refine (HE1.out _ HB.out).mono ?_;rintro e w4 ⟨rfl,hB⟩;have HB:=hd_ (HB.out.trans (hB.mono HB.out.size));have T4:=hd_ True.intro;clear hB))
 go_upto_region 29 with (first
  | (go_at_call 26;(fail_if_success have z:=T5);refine (HRP.out _ HB.out).mono ?_;rintro e w5 ⟨A5,c5,rfl,hF,hB⟩;have HX:=hd_ hF;have HB:=hd_ (HB.out.trans (hB.mono HB.out.size));have T5:=hd_ True.intro;clear hF hB)
  | (go_at_call 38;(fail_if_success have z:=T6);refine (HLO.out A5 c5 _ HX.out.prg).mono ?_;rintro e w6 ⟨hB,hr6⟩;have HB:=hd_ (HB.out.trans (hB.mono HB.out.size));have T6:=hd_ True.intro;clear hB;rcases hr6 with rfl|⟨k6x,rfl⟩))
 ·go_wp2_with (first
  | (go_at_call 30;(fail_if_success have z:=T7);refine (HPF.out _ HB.out).mono ?_;rintro e w7 ⟨rfl,hB⟩;have HB:=hd_ (HB.out.trans (hB.mono HB.out.size));have T7:=hd_ True.intro;clear hB)
  | (go_at_call 25;(have z:=T7;clear z);refine (HE2.out _ HB.out).mono ?_;rintro e w8 ⟨rfl,hB⟩;have HB:=hd_ (HB.out.trans (hB.mono HB.out.size));clear hB))
  go_ret
  exact ⟨by first|rfl|(simp;done),HB.out⟩
 ·go_wp2
  go_ret
  exact ⟨by first|rfl|(simp;done),HB.out⟩):P:=h
theorem formIs_any (l:List Nd) (s:ByteArray) (W:Int) (A:Option Addr) (c n:Nat) (hn:l.length=n) (w:World) (hl:Nds w w.heap.size A l) (hsh:Short l) (hsz:s.size<=maxLen) (hm:MaxL w) (hpw:PowT w) (hg:ErrT w) (hgs:0+1<=w.heap.size) :
  Calls Tryz.prog 11 #[.slice A n c,.string s,.int .i64 W] w (Ret w (.bool true)):=by
 subst hn
 have HB:=hd_ (Below.refl w.heap.size w)
 have HL:=hd_ hl;have HSH:=hd_ hsh;have HM:=hd_ hm;have HPW:=hd_ hpw;have HG:=hd_ hg;have HSS:=hd_ hsz
 have HWI:=hd_ (fun w'=>rwide_any W w')
 have hml:=hl.2.1
 unfold maxLen at hml
 clear hl hsh hm hpw hg hsz
 by_cases hw:wideF W=true
 case neg =>
  have hw0:wideF W=false:=by simpa using hw
  rw [hw0] at HWI
  have hq:oneQ l W=1:=by rw [oneQ,if_pos hw0]
  have HPN:Hid (∀ w',Below w.heap.size w w'->Calls Tryz.prog 19 #[.slice A l.length c,.int .i64 W] w' (Ret w' (.tuple #[.string ⟨#[]⟩,(.iface 43 (.int .i64 1))]))):=hd_ (fun w' hB=>by have:=pone_bad l W A c w' (HL.out.past hB) HSH.out (HM.out.past hB) (HPW.out.past hB) (by rw [hq];decide);rwa [hq] at this)
  have HPF:Hid (∀ w',Below w.heap.size w w'->Calls Tryz.prog 30 #[.string s,.int .i64 W] w' fun e w''=>e=.returned (.tuple #[.string ⟨#[]⟩,.int .i64 (0:Nat),(.iface 43 (.int .i64 1))])/\Below w'.heap.size w' w''):=hd_ (fun w' hB=>by have:=fmt_any s W w' HSS.out (HM.out.past hB) (HPW.out.past hB);unfold FmtTo at this;rw [show fmtF s W=(1,0,.empty) by rw [fmtF,if_pos hw0],← errV_pos (by decide)] at this;exact this)
  have HE1:Hid (∀ w',Below w.heap.size w w'->Calls Tryz.prog 25 #[.iface 43 (.int .i64 1),.int .i64 1] w' (Ret w' (.bool true))):=hd_ (fun w' hB=>error_same _ (by decide) w' (HG.out.past hgs hB) (Nat.le_trans hgs hB.size))
  have HE2:=HE1
  clear hq hw0 hw
  go_enter Tryz.func11,Tryz.ntmps11
  go_wp2_with (first
   | (go_at_call 36;(fail_if_success have z:=T0);refine (HWI.out _).mono ?_;rintro e w0 ⟨rfl,rfl⟩;have T0:=hd_ True.intro)
   | (go_at_call 19;(fail_if_success have z:=T3);refine (HPN.out _ HB.out).mono ?_;rintro e w3 ⟨rfl,hB⟩;have HB:=hd_ (HB.out.trans (hB.mono HB.out.size));have T3:=hd_ True.intro;clear hB)
   | (go_at_call 25;(have z:=T3;clear z);(fail_if_success have z:=T4);refine (HE1.out _ HB.out).mono ?_;rintro e w4 ⟨rfl,hB⟩;have HB:=hd_ (HB.out.trans (hB.mono HB.out.size));have T4:=hd_ True.intro;clear hB)
   | (go_at_call 30;(fail_if_success have z:=T7);refine (HPF.out _ HB.out).mono ?_;rintro e w7 ⟨rfl,hB⟩;have HB:=hd_ (HB.out.trans (hB.mono HB.out.size));have T7:=hd_ True.intro;clear hB)
   | (go_at_call 25;(have z:=T7;clear z);refine (HE2.out _ HB.out).mono ?_;rintro e w8 ⟨rfl,hB⟩;have HB:=hd_ (HB.out.trans (hB.mono HB.out.size));clear hB))
  go_ret
  exact ⟨by first|rfl|(simp;done),HB.out⟩
 case pos =>
 rw [hw] at HWI
 obtain ⟨f6,k6,x6,hs6⟩:∃ f k x,parseF s=(f,k,x):=⟨_,_,_,rfl⟩
 obtain ⟨n6,hn6⟩:∃ n,x6.length=n:=⟨_,rfl⟩
 obtain ⟨E6,hE6⟩:∃ n,formE W x6=n:=⟨_,rfl⟩
 obtain ⟨Z6,hZ6⟩:∃ z,(if E6=0 then formT W x6 else ByteArray.empty)=z:=⟨_,rfl⟩
 have HRP:Hid (∀ w',Below w.heap.size w w'->Calls Tryz.prog 26 #[.string s] w' fun e w''=>∃ A c,e=.returned (.tuple #[.slice A n6 c,.int .i64 (k6:Nat),.int .i64 f6])/\PrgF w'.heap.size w'' A x6/\Below w'.heap.size w' w''):=hd_ (fun w' hB=>parseof_f hs6 hn6 w' HSS.out)
 obtain ⟨q,hq⟩:∃ q,treeF l=q:=⟨_,rfl⟩
 have HTF:Hid (∀ w',Below w.heap.size w w'->Calls Tryz.prog 20 #[.slice A l.length c] w' (Ret w' (.int .i64 q))):=hd_ (fun w' hB=>by have:=treefault_any l A c w' (HL.out.past hB) HSH.out;rwa [hq] at this)
 by_cases hq0:q=0
 case neg =>
  have d1:(q==0)=false:=beq_eq_false_iff_ne.2 hq0
  have d2:decide (q=0)=false:=decide_eq_false hq0
  have ho:oneQ l W=q:=by rw [oneQ,if_neg (by simp [hw]),if_pos (by rw [hq];exact hq0),hq]
  have HPN:Hid (∀ w',Below w.heap.size w w'->Calls Tryz.prog 19 #[.slice A l.length c,.int .i64 W] w' (Ret w' (.tuple #[.string ⟨#[]⟩,(.iface 43 (.int .i64 q))]))):=hd_ (fun w' hB=>by have:=pone_bad l W A c w' (HL.out.past hB) HSH.out (HM.out.past hB) (HPW.out.past hB) (by rw [ho];exact hq0);rwa [ho] at this)
  have HE1:Hid (∀ w',Below w.heap.size w w'->Calls Tryz.prog 25 #[.iface 43 (.int .i64 q),.int .i64 q] w' (Ret w' (.bool true))):=hd_ (fun w' hB=>error_same _ hq0 w' (HG.out.past hgs hB) (Nat.le_trans hgs hB.size))
  clear ho hq hq0
  by_cases hf6:f6=0
  ·subst hf6
   obtain rfl:k6=0:=parse_place hs6
   have hx6:=progF_facts (by have:=parsed_ok (s:=s) (by rw [hs6]);rwa [hs6] at this:(progF x6).2=0)
   have HLO:Hid (∀ (A:Option Addr) (c:Nat) w',Prg w' w'.heap.size A x6->Calls Tryz.prog 38 #[.slice A n6 c,.int .i64 W] w' (fun e w''=>Below w'.heap.size w' w''/\(e=.returned (.tuple #[.string Z6,.int .i64 E6,.bool true])∨∃ k:Int,e=.returned (.tuple #[.string ⟨#[]⟩,.int .i64 k,.bool false])))):=hd_ (fun A c w' h=>by have:=linesof_any x6 W n6 hn6 A c w' h hx6.2.1 (by rw [← hn6];exact hx6.1) hw;unfold LinesRef at this;rw [hE6,hZ6] at this;exact this)
   by_cases hq6:E6=0
   ·subst hq6
    have hz6:Z6=formT W x6:=by rw [← hZ6,if_pos rfl]
    have HPF:Hid (∀ w',Below w.heap.size w w'->Calls Tryz.prog 30 #[.string s,.int .i64 W] w' fun e w''=>e=.returned (.tuple #[.string Z6,.int .i64 (0:Nat),.nilIface])/\Below w'.heap.size w' w''):=hd_ (fun w' hB=>by have:=fmt_any s W w' HSS.out (HM.out.past hB) (HPW.out.past hB);unfold FmtTo at this;rw [show fmtF s W=(0,0,Z6) by rw [fmtF,hs6,if_neg (by simp [hw]),if_neg (by simp),if_neg (by simp [hE6]),hz6],← errV_zero rfl] at this;exact this)
    have HE2:Hid (∀ w',Below w.heap.size w w'->Calls Tryz.prog 25 #[.nilIface,.int .i64 0] w' (Ret w' (.bool true))):=hd_ (fun w' hB=>error_nil w' (HG.out.past hgs hB) (Nat.le_trans hgs hB.size))
    clear hs6 hn6 hx6 hE6 hZ6 hz6 hw
    exact fq108
   ·have hz6:Z6=⟨#[]⟩:=by rw [← hZ6,if_neg hq6];rfl
    subst hz6
    have d6:(E6==0)=false:=beq_eq_false_iff_ne.2 hq6
    have d7:decide (E6=0)=false:=decide_eq_false hq6
    have HPF:Hid (∀ w',Below w.heap.size w w'->Calls Tryz.prog 30 #[.string s,.int .i64 W] w' fun e w''=>e=.returned (.tuple #[.string ⟨#[]⟩,.int .i64 (0:Nat),(.iface 43 (.int .i64 E6))])/\Below w'.heap.size w' w''):=hd_ (fun w' hB=>by have:=fmt_any s W w' HSS.out (HM.out.past hB) (HPW.out.past hB);unfold FmtTo at this;rw [show fmtF s W=(E6,0,.empty) by rw [fmtF,hs6,if_neg (by simp [hw]),if_neg (by simp),if_pos (by rw [hE6];exact hq6),hE6],← errV_pos hq6] at this;exact this)
    have HE2:Hid (∀ w',Below w.heap.size w w'->Calls Tryz.prog 25 #[.iface 43 (.int .i64 E6),.int .i64 E6] w' (Ret w' (.bool true))):=hd_ (fun w' hB=>error_same _ hq6 w' (HG.out.past hgs hB) (Nat.le_trans hgs hB.size))
    clear hs6 hn6 hx6 hE6 hZ6 hw hq6
    exact fq108
  ·have d6:(f6==0)=false:=beq_eq_false_iff_ne.2 hf6
   have d7:decide (f6=0)=false:=decide_eq_false hf6
   have HPF:Hid (∀ w',Below w.heap.size w w'->Calls Tryz.prog 30 #[.string s,.int .i64 W] w' fun e w''=>e=.returned (.tuple #[.string ⟨#[]⟩,.int .i64 (k6:Nat),(.iface 43 (.int .i64 f6))])/\Below w'.heap.size w' w''):=hd_ (fun w' hB=>by have:=fmt_any s W w' HSS.out (HM.out.past hB) (HPW.out.past hB);unfold FmtTo at this;rw [show fmtF s W=(f6,k6,.empty) by rw [fmtF,hs6,if_neg (by simp [hw]),if_pos hf6],← errV_pos hf6] at this;exact this)
   have HE2:Hid (∀ w',Below w.heap.size w w'->Calls Tryz.prog 25 #[.iface 43 (.int .i64 f6),.int .i64 f6] w' (Ret w' (.bool true))):=hd_ (fun w' hB=>error_same _ hf6 w' (HG.out.past hgs hB) (Nat.le_trans hgs hB.size))
   clear hs6 hn6 hE6 hZ6 hw hf6
   go_enter Tryz.func11,Tryz.ntmps11
   go_upto_region 20 with (first
    | (go_at_call 36;(fail_if_success have z:=T0);refine (HWI.out _).mono ?_;rintro e w0 ⟨rfl,rfl⟩;have T0:=hd_ True.intro)
    | (go_at_call 20;(fail_if_success have z:=T1);refine (HTF.out _ HB.out).mono ?_;rintro e w1 ⟨rfl,hB⟩;have HB:=hd_ (HB.out.trans (hB.mono HB.out.size));have T1:=hd_ True.intro;clear hB)
    | (go_at_call 19;(fail_if_success have z:=T3);refine (HPN.out _ HB.out).mono ?_;rintro e w3 ⟨rfl,hB⟩;have HB:=hd_ (HB.out.trans (hB.mono HB.out.size));have T3:=hd_ True.intro;clear hB)
    | (go_at_call 25;(have z:=T3;clear z);(fail_if_success have z:=T4);refine (HE1.out _ HB.out).mono ?_;rintro e w4 ⟨rfl,hB⟩;have HB:=hd_ (HB.out.trans (hB.mono HB.out.size));have T4:=hd_ True.intro;clear hB))
   go_wp2_with (first
    | (go_at_call 26;(fail_if_success have z:=T5);refine (HRP.out _ HB.out).mono ?_;rintro e w5 ⟨A5,c5,rfl,hF,hB⟩;have HX:=hd_ hF;have HB:=hd_ (HB.out.trans (hB.mono HB.out.size));have T5:=hd_ True.intro;clear hF hB)
    | (go_at_call 30;(fail_if_success have z:=T7);refine (HPF.out _ HB.out).mono ?_;rintro e w7 ⟨rfl,hB⟩;have HB:=hd_ (HB.out.trans (hB.mono HB.out.size));have T7:=hd_ True.intro;clear hB)
    | (go_at_call 25;(have z:=T7;clear z);refine (HE2.out _ HB.out).mono ?_;rintro e w8 ⟨rfl,hB⟩;have HB:=hd_ (HB.out.trans (hB.mono HB.out.size));clear hB))
   go_ret
   exact ⟨by first|rfl|(simp;done),HB.out⟩
 case pos =>
 subst hq0
 obtain ⟨q1,hq1⟩:∃ q,oneQ l W=q:=⟨_,rfl⟩
 obtain ⟨X1,hX1⟩:∃ z,(if q1=0 then oneX l W else ByteArray.empty)=z:=⟨_,rfl⟩
 have HOO:Hid (∀ w',Below w.heap.size w w'->Calls Tryz.prog 37 #[.slice A l.length c,.int .i64 W] w' (fun e w''=>Below w'.heap.size w' w''/\(e=.returned (.tuple #[.string X1,.int .i64 q1,.bool true])∨∃ T:ByteArray,e=.returned (.tuple #[.string T,.int .i64 0,.bool false])))):=hd_ (fun w' hB=>by have:=oneof_any l W A c w' (HL.out.past hB) HSH.out hq hw;unfold OneRef at this;rw [hq1,hX1] at this;exact this)
 by_cases hq10:q1=0
 case neg =>
  have hx1:X1=⟨#[]⟩:=by rw [← hX1,if_neg hq10];rfl
  subst hx1
  have d1:(q1==0)=false:=beq_eq_false_iff_ne.2 hq10
  have d2:decide (q1=0)=false:=decide_eq_false hq10
  have HPN:Hid (∀ w',Below w.heap.size w w'->Calls Tryz.prog 19 #[.slice A l.length c,.int .i64 W] w' (Ret w' (.tuple #[.string ⟨#[]⟩,(.iface 43 (.int .i64 q1))]))):=hd_ (fun w' hB=>by have:=pone_bad l W A c w' (HL.out.past hB) HSH.out (HM.out.past hB) (HPW.out.past hB) (by rw [hq1];exact hq10);rwa [hq1] at this)
  have HE1:Hid (∀ w',Below w.heap.size w w'->Calls Tryz.prog 25 #[.iface 43 (.int .i64 q1),.int .i64 q1] w' (Ret w' (.bool true))):=hd_ (fun w' hB=>error_same _ hq10 w' (HG.out.past hgs hB) (Nat.le_trans hgs hB.size))
  clear hq1 hX1 hq10 hq
  exact fq106
 case pos =>
 subst hq10
 have hx1:X1=oneX l W:=by rw [← hX1,if_pos rfl]
 have HPN:Hid (∀ w',Below w.heap.size w w'->Calls Tryz.prog 19 #[.slice A l.length c,.int .i64 W] w' (Ret w' (.tuple #[.string X1,.nilIface]))):=hd_ (fun w' hB=>by have:=pone_ok (fun l x A c w hl hd=>of_from l x A c w hl hd) l W A c w' (HL.out.past hB) HSH.out (HM.out.past hB) (HPW.out.past hB) (fun h9=>docL_doc hq h9 (by have:=(oneQ_zero hq1).2.2 h9;omega)) hq1;rwa [← hx1] at this)
 have HE1:Hid (∀ w',Below w.heap.size w w'->Calls Tryz.prog 25 #[.nilIface,.int .i64 0] w' (Ret w' (.bool true))):=hd_ (fun w' hB=>error_nil w' (HG.out.past hgs hB) (Nat.le_trans hgs hB.size))
 clear hq1 hX1 hx1 hq
 exact fq106
end Go.Proofs.YtddfdmopaeghnacGreatDoor
