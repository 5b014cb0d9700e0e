/- Proved: DeskIs returns true and leaves its arguments as they were, for every input; its card. Conditions: the tables and variables that the card names read as the program's text lays them. -/
import Derived.Test.YtddfdmopaeghnadGreatDoorDqM
import Derived.Test.YtddfdmopaeghnadGreatDoorDqCl
import Derived.Deep.DeepWitnessRowRef
namespace Go.Proofs.YtddfdmopaeghnadGreatDoor.deskIs
open Go.ChangeShapes Go.WideShapes Go.ChangeAt Go.RowKit Go.Deep
open Go.ChangeMaps (open_string)
theorem aeM_:Tryz.prog.cellsOf 35=3:=by kernel_rfl
set_option maxRecDepth 100000 in
theorem ad5_ {H:Type} {enc:TypeId × Value->H} {W:World} {base:Nat} {v:Value} {d:DataW H} {p:List MemPlace}
    (hv:Value.okWide Tryz.prog W .any base 22 v) (h:DataW.Trod enc Tryz.prog W 0 (fun _=>true) true 22 v d p) (hlt:∀ x ∈ p,x.block<W.heap.size):
    ∃ (A:Option Addr) (c:Nat) (l:List Nd),v=.slice A l.length c/\Nds W W.heap.size A l:=by
  obtain ⟨A,n,c,css,rfl,rfl,hs,hc,hm,hd,hcs⟩:=ap0_ Tryz.underlying22 aeM_ (by omega) hv h hlt;obtain ⟨l,hl,hw⟩:=aoI_ (f:=cJ_) (q:=fun x=>x.text.size<=maxLen) hcs (fun cs ⟨h1,k,y,hy,_⟩=>by
    obtain ⟨xs,n,_,_,_,hlen,hf⟩:=DataW.trod_struct Tryz.underlying35 hy
    match cs,h1 with
    | [c0,c1,c2],_ =>
      match xs,hlen with
      | [y0,y1,y2],_ =>
        have e0:=hf 0 _ rfl;have e1:=hf 1 _ rfl;have e2:=hf 2 _ rfl;have k0:Tryz.prog.cellsOf 3=1:=by kernel_rfl
        have k1:Tryz.prog.cellsOf 9=1:=by kernel_rfl
        simp [k0,k1] at e0 e1 e2;obtain ⟨a,ha,_,wa⟩:=DataW.trod_int Tryz.underlying3 e0;obtain ⟨t,htx,_,wt⟩:=DataW.trod_string Tryz.underlying9 e1;obtain ⟨b,hb,_,wb⟩:=DataW.trod_int Tryz.underlying3 e2;simp at ha htx hb;subst ha htx hb;exact ⟨⟨a,t,b⟩,rfl,wt⟩)
  rw [zE_ hl] at hs;have hlen:css.length=l.length:=by rw [hl,List.length_map]
  rw [hlen] at hs hc hm ⊢;exact ⟨A,c,l,rfl,⟨hs,hm,hw⟩⟩
theorem laid_met (os:Os):laidMetH Tryz.prog Rows.deskIsRow.laid ((p9_ os).forCall (fun _ _=>0) ⟨#[],#[.int .i64 0,.slice none 0 0],[]⟩).memory:=
  laidMetH_of_parts (laidMet_of_run' 8 (by kernel_rfl) (by kernel_rfl)) (by kernel_rfl)
theorem reads (os:Os) {H:Type} (enc:TypeId × Value->H):∃ places,DataW.whole enc Tryz.prog ((p9_ os).forCall (fun _ _=>0) ⟨#[],#[.int .i64 0,.slice none 0 0],[]⟩).memory Tryz.f3.params.toList Rows.deskIsSpec.vars false #[Value.int .i64 0,.slice none 0 0].toList 8=some ([.lit (.int .i64 0),.nil],[],places):=
  ⟨[],by kernel_rfl⟩
set_option maxRecDepth 100000 in
theorem lifted (os:Os) (started:os.Started) (H:Type) (enc:TypeId × Value->H) (F:Stop.Interp):
    ReturnsInHanded {} Tryz.checked os 3 .any ((OpenSpec.ofChange Rows.deskIsSpec).preRow enc Tryz.prog Tryz.f3 Rows.deskIsRow.domain false Rows.deskIsRow.laid) (((OpenSpec.ofChange Rows.deskIsSpec).at F).post enc Tryz.prog Tryz.f3 false true false false):=by
  obtain ⟨places,hx⟩:=reads os enc;refine returnsInHanded_of_row (C:=Tryz.checked) (s:=OpenSpec.ofChange Rows.deskIsSpec) own started (by kernel_rfl) Tryz.func3
    (witness_row_at (enc:=enc) (C:=Tryz.checked) false (p9_ os) #[.int .i64 0,.slice none 0 0] rfl (by kernel_rfl) (by kernel_rfl) (by kernel_rfl)
      (OpenSpec.preRow_of_cond 8 hx (by kernel_rfl) (fun k hk=>by cases hk) (by kernel_rfl) (laid_met os))) ?_
  intro W base args ds gs before hval0 hW _ _ _ hL hsh _;have hval:∀ (j:Nat) t v,Tryz.f3.params[j]?=some t->args[j]?=some v->Value.okWide Tryz.prog W .any base t v:=hval0;have hW':=hW;have hlt:∀ x ∈ before,x.block<W.heap.size:=fun x hx=>hW.lt x hx
  obtain ⟨p,q,hA0,hV,rfl,hfz,hnd⟩:=hW;have hA:DataW.TrodAll enc Tryz.prog W 0 (fun _=>true) true Tryz.f3.params.toList args.toList ds p:=hA0;rw [Tryz.params3] at hA hval;obtain ⟨v0,v1,d0,d1,p0,p1,hargs,rfl,rfl,h0,h1⟩:=trodAll_two hA;obtain ⟨rfl,rfl⟩:=trodVars_none hV;obtain rfl:args=#[v0,v1]:=by cases args;simp_all
  obtain ⟨t,rfl,rfl,rfl,ht⟩:=open_int Tryz.underlying3 (hval 0 _ v0 rfl rfl) h0;obtain ⟨A,c,l,rfl,hl⟩:=ad5_ (hval 1 _ v1 rfl rfl) h1 (fun x hx=>hlt x (by simp [hx]));have hg:=zB_ (by rfl) hL;have hpw:=zU_ (by rfl) (by rfl) hL;have walk:=abE_ t l l.length rfl A c W (aoT_ hsh) hpw hg hg.size hl;refine walk.mono fun e W' ⟨he,hb⟩=>?_
  subst he;exact ⟨_,rfl,ajG_ hW' rfl rfl rfl Tryz.underlying4 aoE_ (by kernel_rfl) hb⟩
theorem row:Rows.DeskIsSaid:=
  OpenClaim.holds_of_cond 3 Tryz.f3 rfl rfl rfl rfl rfl rfl rfl ⟨rfl,rfl,rfl,rfl,rfl⟩ rfl rfl rfl rfl rfl (by kernel_rfl) Tryz.func3 closed
    (of_decide_eq_true (by kernel_rfl)) (by unfold Func.isWrapper;first | (rw [if_pos (by decide +kernel)];kernel_rfl) | (rw [if_neg (by decide +kernel)];exact ⟨rfl,rfl⟩))
    (fun os started H enc _ F=>by rw [OpenClaim.pre_eq_preRow];exact lifted os started H enc F)
theorem plain (f : FuncId) (fn : Func) (hf : Tryz.pinned.checked.prog.funcNamed "pargetry/pargetrylaw2.DeskIs" = some f) (hfn : Tryz.pinned.checked.prog.funcs[f]? = some fn) :
    true=Tryz.pinned.checked.prog.looks []/\∀ (j:Nat) t,fn.params[j]?=some t->Tryz.pinned.checked.prog.wantsStandIn t=false:=by
  obtain rfl : f = 3 := Option.some.inj ((show Tryz.prog.funcNamed "pargetry/pargetrylaw2.DeskIs" = some 3 by kernel_rfl).symm.trans hf) |>.symm
  obtain rfl:fn=Tryz.f3:=(Option.some.inj (Tryz.func3.symm.trans hfn)).symm;refine ⟨by kernel_rfl,fun j t ht=>?_⟩;rw [Tryz.params3] at ht;have h3:t=3 ∨ t=22:=by simpa using Array.mem_of_getElem? ht
  rcases h3 with rfl | rfl
  · exact (show Tryz.prog.wantsStandIn 3=false by kernel_rfl)
  · exact (show Tryz.prog.wantsStandIn 22=false by kernel_rfl)
theorem proved:Rows.DeskIsCardSaid:=
  Claim7.holds_tied_plain_at .later [] _ _ _ _ row (fun _ h=>by cases h) (by kernel_rfl) (fun _ h=>by cases h) deskIs_row_tie rfl ⟨rfl,rfl⟩ (by kernel_rfl) rfl plain (by kernel_rfl)
end Go.Proofs.YtddfdmopaeghnadGreatDoor.deskIs
