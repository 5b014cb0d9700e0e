/- way.Of's contract as its callers name it. No condition. way.Of's contract with where the plan's blocks lie; a plan stays over a store below it. No condition. -/
import Derived.Test.YtddfdmopaeghnadGreatDoorRqOp
namespace Go.Proofs.YtddfdmopaeghnadGreatDoor
open Go.RowKit
def PlanFrom (B:Nat) (w:World) (gp:Nat) (A:Option Addr) (c:Nat) (l:List Nd):Prop:=∃ gn gd ge gf gi cf ci,PlanAt w gp gn gd ge gf gi cf ci A c l/\B<=gp/\B<=gn/\B<=gd/\B<=ge/\B<=gf/\B<=gi
theorem PlanFrom.plan {B gp c:Nat} {w:World} {A:Option Addr} {l:List Nd} (h:PlanFrom B w gp A c l):IsPlan w gp A c l:=by
 obtain ⟨gn,gd,ge,gf,gi,cf,ci,hp,_⟩:=h
 exact ⟨gn,gd,ge,gf,gi,cf,ci,hp⟩
theorem PlanFrom.set {B gp c:Nat} {w:World} {A:Option Addr} {l:List Nd} (h:PlanFrom B w gp A c l) (p:Addr) (hp:p.block<B) (v:Value):PlanFrom B (w.setCell p v) gp A c l:=by
 obtain ⟨gn,gd,ge,gf,gi,cf,ci,h,h0,h1,h2,h3,h4,h5⟩:=h
 have far:∀ {g j:Nat},B<=g->(w.setCell p v).cell? ⟨g,j,none⟩=w.cell? ⟨g,j,none⟩:=fun hg=>World.cell?_setCell_other _ _ _ _ (fun e=>by subst e;simp only at hp;omega)
 have hs:(w.setCell p v).heap.size=w.heap.size:=by simp [World.setCell]
 exact ⟨gn,gd,ge,gf,gi,cf,ci,⟨(far h0).trans h.c0,(far h0).trans h.c1,(far h0).trans h.c2,(far h0).trans h.c3,(far h0).trans h.c4,(far h0).trans h.c5,
  fun j hj=>(far h1).trans (h.nx j hj),fun j hj=>(far h2).trans (h.dp j hj),fun j hj=>(far h3).trans (h.en j hj),fun j hj=>(far h4).trans (h.fl j hj),fun j hj=>(far h5).trans (h.ib j hj),
  hs▸h.lp,hs▸h.ln,hs▸h.ld,hs▸h.le,hs▸h.lf,hs▸h.li⟩,h0,h1,h2,h3,h4,h5⟩
theorem PS.planFrom {B:Nat} {w0 w:World} {gp gn gd ge:Nat} {A:Option Addr} {c:Nat} {l:List Nd} {x:D} {nx dp:List Value} {fv iv:Value} (hd:Doc l x) (h:PS B w0 ⟨gp,gn,gd,ge,A,c,l⟩ nx dp fv iv fv iv (txs l l.length) (iss l l.length) w) (hf:Filled l l.length nx dp):PlanFrom B w gp A c l:=by
 obtain ⟨e0,e1,e2,e3,e4,e5⟩:=h.cells
 have hn:=hd.pos
 obtain ⟨k,hk⟩:∃ k,l.length=k+1:=⟨l.length-1,by omega⟩
 have hF:=h.flat
 have hI:=h.isb
 rw [txs_len] at hF
 rw [iss_len] at hI
 obtain ⟨gf,cf,hfv⟩:=hF.form hn
 obtain ⟨hfv,_⟩:=hfv
 obtain ⟨gi,ci,hiv⟩:=hI.form hn
 obtain ⟨hiv,_⟩:=hiv
 subst hfv hiv
 obtain ⟨g1,g2⟩:=hf.all hd
 refine ⟨gn,gd,ge,gf,gi,cf,ci,⟨e0,e1,e2,e3,e4,e5,fun j hj=>?_,fun j hj=>?_,fun j hj=>?_,fun j hj=>?_,fun j hj=>?_,h.gplt,(h.next.lt gn rfl).2,(h.deep.lt gd rfl).2,(h.ends.lt ge rfl).2,(hF.lt gf rfl).2,(hI.lt gi rfl).2⟩,h.gpB,(h.next.lt gn rfl).1,(h.deep.lt gd rfl).1,(h.ends.lt ge rfl).1,(hF.lt gf rfl).1,(hI.lt gi rfl).1⟩
 ·rw [h.next.cellAt j (by rw [Nat.mul_one];exact hj),g1];simp [hj]
 ·rw [h.deep.cellAt j (by rw [Nat.mul_one];exact hj),g2];simp [hj]
 ·rw [h.ends.cellAt j (by rw [Nat.mul_one];exact hj)];simp [endsL,hj]
 ·rw [hF.cellAt j (by rw [Nat.mul_one];exact hj)];simp [txs,hj]
 ·rw [hI.cellAt j (by rw [Nat.mul_one];exact hj)];simp [iss,hj]
def OfFrom (l:List Nd) (A:Option Addr) (c:Nat) (w:World) (e:Ending) (w':World):Prop:=∃ gp:Nat,e=.returned (.pointer (some ⟨gp,0,none⟩))/\PlanFrom w.heap.size w' gp A c l/\Below w.heap.size w w'
def OfFromSaid:Prop:=∀ (l:List Nd) (x:D) (A:Option Addr) (c:Nat) (w:World),Nds w w.heap.size A l->Doc l x->Calls Tryz.prog 89 #[.slice A l.length c] w (OfFrom l A c w)
end Go.Proofs.YtddfdmopaeghnadGreatDoor
