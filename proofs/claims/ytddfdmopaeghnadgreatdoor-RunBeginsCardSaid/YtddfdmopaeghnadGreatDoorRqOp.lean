/- The plan of a doc in memory, as way.Of builds it: one word for its block and rows, and what each step leaves of it. No condition. What way.Of leaves: a plan in memory, read by its callers; small facts for its walk. No condition. -/
import Derived.Test.YtddfdmopaeghnadGreatDoorRqEn
import Derived.Test.YtddfdmopaeghnadGreatDoorRqWp
import Derived.Lib.Builder
namespace Go.Proofs.YtddfdmopaeghnadGreatDoor
open Go.RowKit
structure PB where
 gp:Nat
 gn:Nat
 gd:Nat
 ge:Nat
 A:Option Addr
 c:Nat
 l:List Nd
def PB.n (p:PB):Nat:=p.l.length
structure PS (B:Nat) (w0:World) (p:PB) (nx dp:List Value) (fc ic fv iv:Value) (fl is:List Value) (w:World):Prop where
 blk:w.heap[p.gp]?=some (.cells #[.slice p.A p.l.length p.c,.slice (some ⟨p.gn,0,none⟩) p.l.length p.l.length,.slice (some ⟨p.gd,0,none⟩) p.l.length p.l.length,.slice (some ⟨p.ge,0,none⟩) p.l.length p.l.length,fc,ic] 235 (0,0))
 gpB:B<=p.gp
 next:w.ownsRow B 3 1 (.slice (some ⟨p.gn,0,none⟩) p.l.length p.l.length) p.l.length nx
 deep:w.ownsRow B 3 1 (.slice (some ⟨p.gd,0,none⟩) p.l.length p.l.length) p.l.length dp
 ends:w.ownsRow B 3 1 (.slice (some ⟨p.ge,0,none⟩) p.l.length p.l.length) p.l.length (endsL p.l)
 nd:p.gn≠p.gd
 ne:p.gn≠p.ge
 de:p.gd≠p.ge
 flat:w.ownsRow B 9 1 fv fl.length fl
 isb:w.ownsRow B 4 1 iv is.length is
 bel:Below B w0 w
 big:B<=w.heap.size
section
variable {B:Nat} {w0 w w':World} {p:PB} {nx dp fl is:List Value} {fc ic fv iv:Value}
theorem lt_of_heap {w:World} {b:Nat} {o:Obj} (h:w.heap[b]?=some o):b<w.heap.size:=(Array.getElem?_eq_some_iff.1 h).1
theorem rows_apart {e f:TypeId} {u v:Value} {m n:Nat} {xs ys:List Value} {C:Nat} {sz sz':Nat} (h1:w.ownsRow B e sz u m xs) (h2:w.ownsRow C f sz' v n ys) (hef:e≠f):u.ownBlock=none∨u.ownBlock≠v.ownBlock:=by
 rcases h1.2 with ⟨rfl,_⟩|⟨g,cap,cur,rfl,_,hg,_⟩
 ·exact .inl rfl
 ·refine .inr fun he=>?_
  rcases h2.2 with ⟨rfl,_⟩|⟨g',cap',cur',rfl,_,hg',_⟩
  ·simp [Value.ownBlock] at he
  ·simp only [Value.ownBlock,Option.some.injEq] at he
   subst he
   rw [hg] at hg'
   simp only [Option.some.injEq,Obj.cells.injEq] at hg'
   exact hef hg'.2.1
theorem row_blk {e T:TypeId} {u:Value} {m b sz:Nat} {xs:List Value} {cs:Array Value} {fr:Nat × Nat} (h1:w.ownsRow B e sz u m xs) (hb:w.heap[b]?=some (.cells cs T fr)) (hef:e≠T):u.ownBlock≠some b:=by
 rcases h1.2 with ⟨rfl,_⟩|⟨g,cap,cur,rfl,_,hg,_⟩
 ·simp [Value.ownBlock]
 ·intro he
  simp only [Value.ownBlock,Option.some.injEq] at he
  subst he
  rw [hg] at hb
  simp only [Option.some.injEq,Obj.cells.injEq] at hb
  exact hef hb.2.1
theorem PS.past (h:PS B w0 p nx dp fc ic fv iv fl is w) (hb:Below w.heap.size w w'):PS B w0 p nx dp fc ic fv iv fl is w' :=
 ⟨(hb.block _ (lt_of_heap h.blk)).trans h.blk,h.gpB,own_below h.next hb,own_below h.deep hb,own_below h.ends hb,h.nd,h.ne,h.de,own_below h.flat hb,own_below h.isb hb,h.bel.trans (hb.mono h.big),Nat.le_trans h.big hb.size⟩
theorem PS.alloc (h:PS B w0 p nx dp fc ic fv iv fl is w) (o:Obj):PS B w0 p nx dp fc ic fv iv fl is (w.alloc o):=h.past ((Below.refl _ _).alloc (Nat.le_refl _) o)
theorem PS.drew (h:PS B w0 p nx dp fc ic fv iv fl is w):PS B w0 p nx dp fc ic fv iv fl is w.drew:=h.past (Below.refl _ _).drew
theorem rq24 {P:Prop} (h:P:=by
 exact ⟨by simp [World.setCell,Array.getElem?_modify,h.blk],h.gpB,h.next.kept hg (.inr (row_blk h.next h.blk (by decide))),h.deep.kept hg (.inr (row_blk h.deep h.blk (by decide))),h.ends.kept hg (.inr (row_blk h.ends h.blk (by decide))),h.nd,h.ne,h.de,
  h.flat.kept hg (.inr (row_blk h.flat h.blk (by decide))),h.isb.kept hg (.inr (row_blk h.isb h.blk (by decide))),h.bel.setCell h.gpB _,Nat.le_trans h.big hg.size⟩):P:=h
theorem PS.set4 (h:PS B w0 p nx dp fc ic fv iv fl is w) (v:Value):PS B w0 p nx dp v ic fv iv fl is (w.setCell ⟨p.gp,4,none⟩ v):=by
 have hg:w.grownBy (w.setCell ⟨p.gp,4,none⟩ v) (some p.gp):=⟨rfl,rfl,rfl,by simp [World.setCell],fun k _ hk=>Below.heap_setCell _ _ _ _ (fun e=>hk (by simp [e]))⟩
 exact rq24
theorem PS.set5 (h:PS B w0 p nx dp fc ic fv iv fl is w) (v:Value):PS B w0 p nx dp fc v fv iv fl is (w.setCell ⟨p.gp,5,none⟩ v):=by
 have hg:w.grownBy (w.setCell ⟨p.gp,5,none⟩ v) (some p.gp):=⟨rfl,rfl,rfl,by simp [World.setCell],fun k _ hk=>Below.heap_setCell _ _ _ _ (fun e=>hk (by simp [e]))⟩
 exact rq24
theorem PS.setNext (h:PS B w0 p nx dp fc ic fv iv fl is w) (j:Nat) (v:Value):PS B w0 p (nx.set j v) dp fc ic fv iv fl is (w.setCell ⟨p.gn,j,none⟩ v):=by
 obtain ⟨h1,hg⟩:=h.next.stored j v
 have hne:some p.gp≠some p.gn:=fun e=>row_blk h.next h.blk (by decide) (by simp [Value.ownBlock];exact (Option.some.inj e).symm)
 exact ⟨(hg.block _ (lt_of_heap h.blk) hne).trans h.blk,h.gpB,h1,h.deep.kept hg (.inr (by simp [Value.ownBlock];exact fun e=>h.nd e.symm)),h.ends.kept hg (.inr (by simp [Value.ownBlock];exact fun e=>h.ne e.symm)),h.nd,h.ne,h.de,
  h.flat.kept hg (rows_apart h.flat h.next (by decide)),h.isb.kept hg (rows_apart h.isb h.next (by decide)),h.bel.setCell (p:=⟨p.gn,j,none⟩) (h.next.lt p.gn rfl).1 _,Nat.le_trans h.big hg.size⟩
theorem PS.setDeep (h:PS B w0 p nx dp fc ic fv iv fl is w) (j:Nat) (v:Value):PS B w0 p nx (dp.set j v) fc ic fv iv fl is (w.setCell ⟨p.gd,j,none⟩ v):=by
 obtain ⟨h1,hg⟩:=h.deep.stored j v
 have hne:some p.gp≠some p.gd:=fun e=>row_blk h.deep h.blk (by decide) (by simp [Value.ownBlock];exact (Option.some.inj e).symm)
 exact ⟨(hg.block _ (lt_of_heap h.blk) hne).trans h.blk,h.gpB,h.next.kept hg (.inr (by simp [Value.ownBlock];exact h.nd)),h1,h.ends.kept hg (.inr (by simp [Value.ownBlock];exact fun e=>h.de e.symm)),h.nd,h.ne,h.de,
  h.flat.kept hg (rows_apart h.flat h.deep (by decide)),h.isb.kept hg (rows_apart h.isb h.deep (by decide)),h.bel.setCell (p:=⟨p.gd,j,none⟩) (h.deep.lt p.gd rfl).1 _,Nat.le_trans h.big hg.size⟩
theorem PS.appFlat (h:PS B w0 p nx dp fc ic fv iv fl is w) {fv':Value} {fl':List Value} {n:Nat} (hr:w'.ownsRow B 9 1 fv' n fl') (hn:fl'.length=n) (hg:w.grownBy w' fv.ownBlock):PS B w0 p nx dp fc ic fv' iv fl' is w':=by
 subst hn
 exact ⟨(hg.block _ (lt_of_heap h.blk) (fun e=>row_blk h.flat h.blk (by decide) e.symm)).trans h.blk,h.gpB,h.next.kept hg (rows_apart h.next h.flat (by decide)),h.deep.kept hg (rows_apart h.deep h.flat (by decide)),h.ends.kept hg (rows_apart h.ends h.flat (by decide)),h.nd,h.ne,h.de,
  hr,h.isb.kept hg (rows_apart h.isb h.flat (by decide)),h.bel.grown hg h.big fun k hk=>(h.flat.lt k hk).1,Nat.le_trans h.big hg.size⟩
theorem PS.appIs (h:PS B w0 p nx dp fc ic fv iv fl is w) {iv':Value} {is':List Value} {n:Nat} (hr:w'.ownsRow B 4 1 iv' n is') (hn:is'.length=n) (hg:w.grownBy w' iv.ownBlock):PS B w0 p nx dp fc ic fv iv' fl is' w':=by
 subst hn
 exact ⟨(hg.block _ (lt_of_heap h.blk) (fun e=>row_blk h.isb h.blk (by decide) e.symm)).trans h.blk,h.gpB,h.next.kept hg (rows_apart h.next h.isb (by decide)),h.deep.kept hg (rows_apart h.deep h.isb (by decide)),h.ends.kept hg (rows_apart h.ends h.isb (by decide)),h.nd,h.ne,h.de,
  h.flat.kept hg (rows_apart h.flat h.isb (by decide)),hr,h.bel.grown hg h.big fun k hk=>(h.isb.lt k hk).1,Nat.le_trans h.big hg.size⟩
theorem PS.cells (h:PS B w0 p nx dp fc ic fv iv fl is w):w.cell? ⟨p.gp,0,none⟩=some (.slice p.A p.l.length p.c)/\w.cell? ⟨p.gp,1,none⟩=some (.slice (some ⟨p.gn,0,none⟩) p.l.length p.l.length) /\
  w.cell? ⟨p.gp,2,none⟩=some (.slice (some ⟨p.gd,0,none⟩) p.l.length p.l.length)/\w.cell? ⟨p.gp,3,none⟩=some (.slice (some ⟨p.ge,0,none⟩) p.l.length p.l.length)/\w.cell? ⟨p.gp,4,none⟩=some fc/\w.cell? ⟨p.gp,5,none⟩=some ic:=by
 refine ⟨?_, ?_, ?_, ?_, ?_, ?_⟩ <;> (rw [Lib.cell_of_heap h.blk];rfl)
theorem PS.free (h:PS B w0 p nx dp fc ic fv iv fl is w) (j:Nat):w.frozen? ⟨p.gp,j,none⟩=false:=Lib.frozen_of_heap h.blk j
theorem PS.gplt (h:PS B w0 p nx dp fc ic fv iv fl is w):p.gp<w.heap.size:=lt_of_heap h.blk
theorem blk_app {u:Value} {e T:TypeId} {n g sz:Nat} {xs:List Value} {cs:Array Value} {fr:Nat × Nat} (hr:w.ownsRow B e sz u n xs) (hb:w.heap[g]?=some (.cells cs T fr)) (he:e≠T) (hg:w.grownBy w' u.ownBlock):w'.heap[g]?=some (.cells cs T fr) :=
 (hg.block _ (lt_of_heap hb) (fun e'=>row_blk hr hb he e'.symm)).trans hb
theorem blk_below {g:Nat} {o:Obj} (hb:w.heap[g]?=some o) (h:Below w.heap.size w w'):w'.heap[g]?=some o:=(h.block _ (lt_of_heap hb)).trans hb
theorem blk_set {g:Nat} {o:Obj} (hb:w.heap[g]?=some o) (a:Addr) (v:Value) (hne:g≠a.block):(w.setCell a v).heap[g]?=some o:=(Below.heap_setCell _ _ _ _ hne).trans hb
end
def txs (l:List Nd) (k:Nat):List Value:=(List.range k).map fun i=>.string (lineAt l i).1
def iss (l:List Nd) (k:Nat):List Value:=(List.range k).map fun i=>.bool (lineAt l i).2
theorem txs_len (l:List Nd) (k:Nat):(txs l k).length=k:=by simp [txs]
theorem iss_len (l:List Nd) (k:Nat):(iss l k).length=k:=by simp [iss]
theorem txs_succ (l:List Nd) (k:Nat):txs l (k+1)=txs l k++[.string (lineAt l k).1]:=by simp [txs,List.range_succ]
theorem iss_succ (l:List Nd) (k:Nat):iss l (k+1)=iss l k++[.bool (lineAt l k).2]:=by simp [iss,List.range_succ]
def Filled (l:List Nd) (k:Nat) (nx dp:List Value):Prop :=
 nx.length=l.length/\dp.length=l.length/\∀ j,j<l.length->(j=0∨∃ q,q<k/\ChildOf l q j)->nx[j]?=some (.int .i64 (nextAt l j:Nat))/\dp[j]?=some (.int .i64 (deepAt l j))
theorem Filled.at_ {l:List Nd} {x:D} (hd:Doc l x) {k:Nat} {nx dp:List Value} (h:Filled l k nx dp) (hk:k<l.length):nx[k]?=some (.int .i64 (nextAt l k:Nat))/\dp[k]?=some (.int .i64 (deepAt l k)):=by
 rcases Nat.eq_zero_or_pos k with h0|h0
 ·exact h.2.2 k hk (.inl h0)
 ·exact h.2.2 k hk (.inr (hd.parent h0 hk))
theorem Filled.all {l:List Nd} {x:D} (hd:Doc l x) {nx dp:List Value} (h:Filled l l.length nx dp) :
  nx=(List.range l.length).map (fun j=>.int .i64 (nextAt l j:Nat))/\dp=(List.range l.length).map (fun j=>.int .i64 (deepAt l j)):=by
 have hj:∀ j,j<l.length->nx[j]?=some (.int .i64 (nextAt l j:Nat))/\dp[j]?=some (.int .i64 (deepAt l j)):=by
  intro j hj
  rcases Nat.eq_zero_or_pos j with h0|h0
  ·exact h.2.2 j hj (.inl h0)
  ·obtain ⟨q,hq,hc⟩:=hd.parent h0 hj
   exact h.2.2 j hj (.inr ⟨q,by omega,hc⟩)
 constructor
 ·apply List.ext_getElem?
  intro j
  by_cases hl:j<l.length
  ·rw [(hj j hl).1];simp [hl]
  ·rw [List.getElem?_eq_none (by have:=h.1;omega),List.getElem?_eq_none (by simp;omega)]
 ·apply List.ext_getElem?
  intro j
  by_cases hl:j<l.length
  ·rw [(hj j hl).2];simp [hl]
  ·rw [List.getElem?_eq_none (by have:=h.2.1;omega),List.getElem?_eq_none (by simp;omega)]
theorem Filled.leaf {l:List Nd} {k:Nat} {nx dp:List Value} (h:Filled l k nx dp) (hk:k<l.length) (hp:parts l[k].op=0):Filled l (k+1) nx dp:=by
 refine ⟨h.1,h.2.1,fun j hj hc=>h.2.2 j hj ?_⟩
 rcases hc with h0|⟨q,hq,hc⟩
 ·exact .inl h0
 ·refine .inr ⟨q, ?_,hc⟩
  rcases Nat.lt_or_ge q k with h1|h1
  ·exact h1
  ·obtain rfl:q=k:=by omega
   have hg:l.getD q ⟨0,.empty,0⟩=l[q]:=by simp [hk]
   rw [ChildOf,hg,hp] at hc
   rcases hc with ⟨h2,_⟩|⟨h2,_⟩ <;> omega
theorem Filled.un {l:List Nd} {x:D} (hd:Doc l x) {k:Nat} {nx dp:List Value} (h:Filled l k nx dp) (hk:k<l.length) (hp:parts l[k].op=1) {a b:Value} (ha:a=.int .i64 (nextAt l k:Nat)) (hb:b=.int .i64 (deepAt l k+l[k].n)) :
  Filled l (k+1) (nx.set (k+1) a) (dp.set (k+1) b):=by
 obtain ⟨h1,_,h3,h4⟩:=hd.plan_un hk hp
 subst ha hb
 refine ⟨by simp [h.1],by simp [h.2.1],fun j hj hc=>?_⟩
 by_cases e:j=k+1
 ·subst e
  rw [List.getElem?_set_self (by rw [h.1];exact hj),List.getElem?_set_self (by rw [h.2.1];exact hj),h3,h4]
  exact ⟨rfl,rfl⟩
 ·rw [List.getElem?_set_ne (by omega),List.getElem?_set_ne (by omega)]
  refine h.2.2 j hj ?_
  rcases hc with h0|⟨q,hq,hc⟩
  ·exact .inl h0
  ·refine .inr ⟨q, ?_,hc⟩
   rcases Nat.lt_or_ge q k with h1|h1
   ·exact h1
   ·obtain rfl:q=k:=by omega
    have hg:l.getD q ⟨0,.empty,0⟩=l[q]:=by simp [hk]
    rw [ChildOf,hg,hp] at hc
    rcases hc with ⟨_,h2⟩|⟨h2,_⟩ <;> omega
theorem Filled.bin {l:List Nd} {x:D} (hd:Doc l x) {k e:Nat} {nx dp:List Value} (h:Filled l k nx dp) (hk:k<l.length) (hp:parts l[k].op=2) (he:endAt l (k+1)=e) {a a' b:Value}
  (ha:a=.int .i64 ((if l[k].op=6 then e else nextAt l k):Nat)) (ha':a'=.int .i64 (nextAt l k:Nat)) (hb:b=.int .i64 (deepAt l k+l[k].n)) {nx' dp':List Value}
  (hnx:nx'=(nx.set (k+1) a).set e a'∨nx'=(nx.set e a').set (k+1) a) (hdp:dp'=(dp.set (k+1) b).set e b∨dp'=(dp.set e b).set (k+1) b):Filled l (k+1) nx' dp':=by
 subst he
 obtain ⟨g1,g2,_,g4,g5,g6,g7⟩:=hd.plan_bin hk hp
 subst ha ha' hb
 have hnx2:nx'=(nx.set (k+1) (.int .i64 ((if l[k].op=6 then endAt l (k+1) else nextAt l k):Nat))).set (endAt l (k+1)) (.int .i64 (nextAt l k:Nat)):=by
  rcases hnx with h|h
  ·exact h
  ·rw [h,List.set_comm _ _ (by omega)]
 have hdp2:dp'=(dp.set (k+1) (.int .i64 (deepAt l k+l[k].n))).set (endAt l (k+1)) (.int .i64 (deepAt l k+l[k].n)):=by
  rcases hdp with h|h
  ·exact h
  ·rw [h,List.set_comm _ _ (by omega)]
 subst hnx2 hdp2
 refine ⟨by simp [h.1],by simp [h.2.1],fun j hj hc=>?_⟩
 by_cases e2:j=endAt l (k+1)
 ·subst e2
  rw [List.getElem?_set_self (by simp [h.1];exact hj),List.getElem?_set_self (by simp [h.2.1];exact hj),g6,g7]
  exact ⟨rfl,rfl⟩
 ·by_cases e1:j=k+1
  ·subst e1
   rw [List.getElem?_set_ne (by omega),List.getElem?_set_self (by rw [h.1];exact hj),List.getElem?_set_ne (by omega),List.getElem?_set_self (by rw [h.2.1];exact hj),g4,g5]
   exact ⟨rfl,rfl⟩
  ·rw [List.getElem?_set_ne (by omega),List.getElem?_set_ne (by omega),List.getElem?_set_ne (by omega),List.getElem?_set_ne (by omega)]
   refine h.2.2 j hj ?_
   rcases hc with h0|⟨q,hq,hc⟩
   ·exact .inl h0
   ·refine .inr ⟨q, ?_,hc⟩
    rcases Nat.lt_or_ge q k with h1|h1
    ·exact h1
    ·obtain rfl:q=k:=by omega
     have hg:l.getD q ⟨0,.empty,0⟩=l[q]:=by simp [hk]
     rw [ChildOf,hg] at hc
     rcases hc with ⟨_,h2⟩|⟨_,h2⟩ <;> omega
section
variable {B:Nat} {w0 w w':World} {p:PB} {nx dp fl is:List Value} {fc ic fv iv:Value}
def PF (B:Nat) (w0:World) (p:PB) (nx dp:List Value) (fc fv:Value) (fl:List Value) (w:World):Prop:=∃ ic iv is,PS B w0 p nx dp fc ic fv iv fl is w
def PI (B:Nat) (w0:World) (p:PB) (nx dp:List Value) (ic iv:Value) (is:List Value) (w:World):Prop:=∃ fc fv fl,PS B w0 p nx dp fc ic fv iv fl is w
theorem PS.pf (h:PS B w0 p nx dp fc ic fv iv fl is w):PF B w0 p nx dp fc fv fl w:=⟨_,_,_,h⟩
theorem PS.pi (h:PS B w0 p nx dp fc ic fv iv fl is w):PI B w0 p nx dp ic iv is w:=⟨_,_,_,h⟩
theorem PF.alloc (h:PF B w0 p nx dp fc fv fl w) (o:Obj):PF B w0 p nx dp fc fv fl (w.alloc o):=let ⟨_,_,_,g⟩:=h;(g.alloc o).pf
theorem PI.alloc (h:PI B w0 p nx dp ic iv is w) (o:Obj):PI B w0 p nx dp ic iv is (w.alloc o):=let ⟨_,_,_,g⟩:=h;(g.alloc o).pi
theorem PF.drew (h:PF B w0 p nx dp fc fv fl w):PF B w0 p nx dp fc fv fl w.drew:=let ⟨_,_,_,g⟩:=h;g.drew.pf
theorem PI.drew (h:PI B w0 p nx dp ic iv is w):PI B w0 p nx dp ic iv is w.drew:=let ⟨_,_,_,g⟩:=h;g.drew.pi
theorem PF.set4 (h:PF B w0 p nx dp fc fv fl w) (v:Value):PF B w0 p nx dp v fv fl (w.setCell ⟨p.gp,4,none⟩ v):=let ⟨_,_,_,g⟩:=h;(g.set4 v).pf
theorem PF.set5 (h:PF B w0 p nx dp fc fv fl w) (v:Value):PF B w0 p nx dp fc fv fl (w.setCell ⟨p.gp,5,none⟩ v):=let ⟨_,_,_,g⟩:=h;(g.set5 v).pf
theorem PI.set4 (h:PI B w0 p nx dp ic iv is w) (v:Value):PI B w0 p nx dp ic iv is (w.setCell ⟨p.gp,4,none⟩ v):=let ⟨_,_,_,g⟩:=h;(g.set4 v).pi
theorem PI.set5 (h:PI B w0 p nx dp ic iv is w) (v:Value):PI B w0 p nx dp v iv is (w.setCell ⟨p.gp,5,none⟩ v):=let ⟨_,_,_,g⟩:=h;(g.set5 v).pi
theorem PF.row (h:PF B w0 p nx dp fc fv fl w) {n:Nat} (hn:fl.length=n):w.ownsRow B 9 1 fv n fl:=by obtain ⟨_,_,_,g⟩:=h;subst hn;exact g.flat
theorem PI.row (h:PI B w0 p nx dp ic iv is w) {n:Nat} (hn:is.length=n):w.ownsRow B 4 1 iv n is:=by obtain ⟨_,_,_,g⟩:=h;subst hn;exact g.isb
theorem PF.cell (h:PF B w0 p nx dp fc fv fl w):w.cell? ⟨p.gp,4,none⟩=some fc:=let ⟨_,_,_,g⟩:=h;g.cells.2.2.2.2.1
theorem PI.cell (h:PI B w0 p nx dp ic iv is w):w.cell? ⟨p.gp,5,none⟩=some ic:=let ⟨_,_,_,g⟩:=h;g.cells.2.2.2.2.2
theorem PF.free (h:PF B w0 p nx dp fc fv fl w):w.frozen? ⟨p.gp,4,none⟩=false/\w.frozen? ⟨p.gp,5,none⟩=false:=let ⟨_,_,_,g⟩:=h;⟨g.free 4,g.free 5⟩
theorem PI.free (h:PI B w0 p nx dp ic iv is w):w.frozen? ⟨p.gp,4,none⟩=false/\w.frozen? ⟨p.gp,5,none⟩=false:=let ⟨_,_,_,g⟩:=h;⟨g.free 4,g.free 5⟩
theorem PF.big (h:PF B w0 p nx dp fc fv fl w):B<=w.heap.size/\p.gp<w.heap.size:=let ⟨_,_,_,g⟩:=h;⟨g.big,g.gplt⟩
theorem PI.big (h:PI B w0 p nx dp ic iv is w):B<=w.heap.size/\p.gp<w.heap.size:=let ⟨_,_,_,g⟩:=h;⟨g.big,g.gplt⟩
theorem PF.app (h:PF B w0 p nx dp fc fv fl w) {fv':Value} {fl':List Value} {n:Nat} (hr:w'.ownsRow B 9 1 fv' n fl') (hn:fl'.length=n) (hg:w.grownBy w' fv.ownBlock):PF B w0 p nx dp fc fv' fl' w':=let ⟨_,_,_,g⟩:=h;(g.appFlat hr hn hg).pf
theorem PI.app (h:PI B w0 p nx dp ic iv is w) {iv':Value} {is':List Value} {n:Nat} (hr:w'.ownsRow B 4 1 iv' n is') (hn:is'.length=n) (hg:w.grownBy w' iv.ownBlock):PI B w0 p nx dp ic iv' is' w':=let ⟨_,_,_,g⟩:=h;(g.appIs hr hn hg).pi
theorem PI.other {u u':Value} {n m:Nat} {xs xs':List Value} (h0:w.ownsRow B 9 1 u m xs) (hr:w'.ownsRow B 9 1 u' n xs') (hn:xs'.length=n) (hg:w.grownBy w' u.ownBlock) (h:PI B w0 p nx dp ic iv is w):PI B w0 p nx dp ic iv is w':=by
 obtain ⟨fc,fv,fl,g⟩:=h
 subst hn
 exact ⟨fc,u',xs',(hg.block _ (lt_of_heap g.blk) (fun e=>row_blk h0 g.blk (by decide) e.symm)).trans g.blk,g.gpB,g.next.kept hg (rows_apart g.next h0 (by decide)),g.deep.kept hg (rows_apart g.deep h0 (by decide)),g.ends.kept hg (rows_apart g.ends h0 (by decide)),g.nd,g.ne,g.de,
  hr,g.isb.kept hg (rows_apart g.isb h0 (by decide)),g.bel.grown hg g.big fun k hk=>(h0.lt k hk).1,Nat.le_trans g.big hg.size⟩
theorem PF.other {u u':Value} {n m:Nat} {xs xs':List Value} (h0:w.ownsRow B 4 1 u m xs) (hr:w'.ownsRow B 4 1 u' n xs') (hn:xs'.length=n) (hg:w.grownBy w' u.ownBlock) (h:PF B w0 p nx dp fc fv fl w):PF B w0 p nx dp fc fv fl w':=by
 obtain ⟨ic,iv,is,g⟩:=h
 subst hn
 exact ⟨ic,u',xs',(hg.block _ (lt_of_heap g.blk) (fun e=>row_blk h0 g.blk (by decide) e.symm)).trans g.blk,g.gpB,g.next.kept hg (rows_apart g.next h0 (by decide)),g.deep.kept hg (rows_apart g.deep h0 (by decide)),g.ends.kept hg (rows_apart g.ends h0 (by decide)),g.nd,g.ne,g.de,
  g.flat.kept hg (rows_apart g.flat h0 (by decide)),hr,g.bel.grown hg g.big fun k hk=>(h0.lt k hk).1,Nat.le_trans g.big hg.size⟩
theorem PF.join (h:PF B w0 p nx dp fc fv fl w) (h':PI B w0 p nx dp ic iv is w):PS B w0 p nx dp fc ic fv iv fl is w:=by
 obtain ⟨ic',iv',is',g⟩:=h
 obtain ⟨fc',fv',fl',g'⟩:=h'
 have hb:=g.blk
 rw [g'.blk] at hb
 simp only [Option.some.injEq,Obj.cells.injEq,Array.mk.injEq,List.cons.injEq] at hb
 obtain ⟨⟨_,_,_,_,rfl,rfl,_⟩,_⟩:=hb
 exact ⟨g.blk,g.gpB,g.next,g.deep,g.ends,g.nd,g.ne,g.de,g.flat,g'.isb,g.bel,g.big⟩
theorem sl_blk {W:World} {b:Nat} {u:Value} {T:TypeId} {fr:Nat × Nat} (hb:W.heap[b]?=some (.cells #[u] T fr)):Sl W W.heap.size 1 (some ⟨b,0,none⟩) 1 [u] :=
 ⟨rfl,fun _=>⟨b,0,rfl,lt_of_heap hb,fun j v hv=>by
  rw [Lib.cell_of_heap hb,Nat.zero_add]
  simpa using hv⟩⟩
theorem own_succ {W:World} {base:Nat} {e:TypeId} {size:Nat} {v:Value} {k:Nat} {xs:List Value} (h:W.ownsRow base e size v (k+1) xs):∃ g cap,v=.slice (some ⟨g,0,none⟩) (k+1) cap:=by
 obtain ⟨g,cap,hv,_⟩:=h.form (Nat.succ_pos k)
 exact ⟨g,cap,hv⟩
theorem blk_far {W W':World} {row:Option Nat} (hg:W.grownBy W' row):∀ (b:Nat) (o:Obj),W.heap[b]?=some o->some b≠row->W'.heap[b]?=some o:=fun b _ hb hne=>(hg.block b (lt_of_heap hb) hne).trans hb
theorem blk_alloc {W:World} {b:Nat} {o o':Obj} (hb:W.heap[b]?=some o):(W.alloc o').heap[b]?=some o:=blk_below hb ((Below.refl _ _).alloc (Nat.le_refl _) o')
theorem blk_drew {W:World} {b:Nat} {o:Obj} (hb:W.heap[b]?=some o):W.drew.heap[b]?=some o:=hb
end
theorem _root_.Go.World.ownsRow.someAt {w:World} {base:Nat} {e:TypeId} {g n c:Nat} {xs:List Value} (h:w.ownsRow base e 1 (.slice (some ⟨g,0,none⟩) n c) n xs) {j:Nat} (hj:j<n):∃ u,w.cell? ⟨g,j,none⟩=some u:=by
 have hl:=h.1
 rw [h.cellAt j (by omega)]
 exact ⟨_,List.getElem?_eq_getElem (by omega)⟩
theorem PS.apart {B:Nat} {w0 w:World} {p:PB} {nx dp fl is:List Value} {fc ic fv iv:Value} (h:PS B w0 p nx dp fc ic fv iv fl is w):¬ p.gp=p.gn/\¬ p.gp=p.gd/\¬ p.gn=p.gd :=
 ⟨fun e=>row_blk h.next h.blk (by decide) (by simp [Value.ownBlock,e]),fun e=>row_blk h.deep h.blk (by decide) (by simp [Value.ownBlock,e]),h.nd⟩
theorem PS.drewN {B:Nat} {w0 w:World} {p:PB} {nx dp fl is:List Value} {fc ic fv iv:Value} (h:PS B w0 p nx dp fc ic fv iv fl is w) (m:Nat):PS B w0 p nx dp fc ic fv iv fl is (w.drewN m):=h.past (below_drewN (Below.refl _ _) m)
theorem oneF_n {d:Nd} (h:oneF d.op d.text d.n=0):0<=d.n/\d.n<=8:=by
 unfold oneF at h
 by_cases c1:d.op<1∨9<d.op
 ·rw [if_pos c1] at h;cases h
 ·rw [if_neg c1] at h
  split at h
  ·cases h
  ·split at h
   ·cases h
   ·split at h
    ·cases h
    ·omega
theorem Doc.ops {l:List Nd} {x:D} (hd:Doc l x) {i:Nat} (hi:i<l.length) {op n:Int} {t:ByteArray} (hnd:l[i]=Nd.mk op t n):op=1∨op=2∨op=3∨op=4∨op=5∨op=6∨op=7∨op=8∨op=9:=by
 have hone:=hd.one _ (List.getElem_mem hi)
 rw [hnd] at hone
 have h1:¬ (op<1∨9<op):=fun h=>by rw [oneF,if_pos h] at hone;cases hone
 omega
structure PlanAt (w:World) (gp gn gd ge gf gi cf ci:Nat) (A:Option Addr) (c:Nat) (l:List Nd):Prop where
 c0:w.cell? ⟨gp,0,none⟩=some (.slice A l.length c)
 c1:w.cell? ⟨gp,1,none⟩=some (.slice (some ⟨gn,0,none⟩) l.length l.length)
 c2:w.cell? ⟨gp,2,none⟩=some (.slice (some ⟨gd,0,none⟩) l.length l.length)
 c3:w.cell? ⟨gp,3,none⟩=some (.slice (some ⟨ge,0,none⟩) l.length l.length)
 c4:w.cell? ⟨gp,4,none⟩=some (.slice (some ⟨gf,0,none⟩) l.length cf)
 c5:w.cell? ⟨gp,5,none⟩=some (.slice (some ⟨gi,0,none⟩) l.length ci)
 nx:∀ j,j<l.length->w.cell? ⟨gn,j,none⟩=some (.int .i64 (nextAt l j:Nat))
 dp:∀ j,j<l.length->w.cell? ⟨gd,j,none⟩=some (.int .i64 (deepAt l j))
 en:∀ j,j<l.length->w.cell? ⟨ge,j,none⟩=some (.int .i64 (endAt l j:Nat))
 fl:∀ j,j<l.length->w.cell? ⟨gf,j,none⟩=some (.string (lineAt l j).1)
 ib:∀ j,j<l.length->w.cell? ⟨gi,j,none⟩=some (.bool (lineAt l j).2)
 lp:gp<w.heap.size
 ln:gn<w.heap.size
 ld:gd<w.heap.size
 le:ge<w.heap.size
 lf:gf<w.heap.size
 li:gi<w.heap.size
def IsPlan (w:World) (gp:Nat) (A:Option Addr) (c:Nat) (l:List Nd):Prop:=∃ gn gd ge gf gi cf ci,PlanAt w gp gn gd ge gf gi cf ci A c l
theorem PlanAt.past {w w':World} {gp gn gd ge gf gi cf ci:Nat} {A:Option Addr} {c:Nat} {l:List Nd} (h:PlanAt w gp gn gd ge gf gi cf ci A c l) (hb:Below w.heap.size w w'):PlanAt w' gp gn gd ge gf gi cf ci A c l :=
 ⟨(hb.cell (p:=⟨gp,0,none⟩) h.lp).trans h.c0,(hb.cell (p:=⟨gp,1,none⟩) h.lp).trans h.c1,(hb.cell (p:=⟨gp,2,none⟩) h.lp).trans h.c2,(hb.cell (p:=⟨gp,3,none⟩) h.lp).trans h.c3,(hb.cell (p:=⟨gp,4,none⟩) h.lp).trans h.c4,(hb.cell (p:=⟨gp,5,none⟩) h.lp).trans h.c5,
  fun j hj=>(hb.cell (p:=⟨gn,j,none⟩) h.ln).trans (h.nx j hj),fun j hj=>(hb.cell (p:=⟨gd,j,none⟩) h.ld).trans (h.dp j hj),fun j hj=>(hb.cell (p:=⟨ge,j,none⟩) h.le).trans (h.en j hj),
  fun j hj=>(hb.cell (p:=⟨gf,j,none⟩) h.lf).trans (h.fl j hj),fun j hj=>(hb.cell (p:=⟨gi,j,none⟩) h.li).trans (h.ib j hj),
  Nat.lt_of_lt_of_le h.lp hb.size,Nat.lt_of_lt_of_le h.ln hb.size,Nat.lt_of_lt_of_le h.ld hb.size,Nat.lt_of_lt_of_le h.le hb.size,Nat.lt_of_lt_of_le h.lf hb.size,Nat.lt_of_lt_of_le h.li hb.size⟩
theorem IsPlan.past {w w':World} {gp:Nat} {A:Option Addr} {c:Nat} {l:List Nd} (h:IsPlan w gp A c l) (hb:Below w.heap.size w w'):IsPlan w' gp A c l:=by
 obtain ⟨gn,gd,ge,gf,gi,cf,ci,h⟩:=h
 exact ⟨gn,gd,ge,gf,gi,cf,ci,h.past hb⟩
end Go.Proofs.YtddfdmopaeghnadGreatDoor
