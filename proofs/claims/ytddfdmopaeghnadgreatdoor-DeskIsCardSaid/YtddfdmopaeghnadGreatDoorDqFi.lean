/- Walks: tree. With what it rests on. Conditions: as each theorem states them. -/
import Derived.Test.YtddfdmopaeghnadGreatDoorDqSy
import Derived.Lib.Join
import Derived.IntWalk
import Derived.BigRegion
set_option maxRecDepth 100000
set_option maxHeartbeats 16000000
namespace Go.Proofs.YtddfdmopaeghnadGreatDoor
variable {P Q:Prop}
section
open Go.RowKit
def sX_ (t:ByteArray) (w:World) (e:Ending) (w':World):Prop:=∃ A c,e=.returned (.slice A (aJ_ t).length c)/\Txs w' w'.heap.size A (aJ_ t)/\Below w.heap.size w w'/\(aJ_ t).length<=c
theorem adY_ (t:ByteArray) (w:World) (hs:t.size<4294967281) (hm:cQ_ w) :
  Calls Tryz.prog 142 #[.string t] w (sX_ t w):=by
 obtain ⟨_,m,hm⟩:=hm
 by_cases he:t.toList=[]
 ·have he2:t.toList.isEmpty=true:=by simp [he]
  have hn:aJ_ t=[]:=by rw [aJ_,if_pos he]
  clear hm
  go_enter Tryz.func142,Tryz.ntmps142
  go_wp2
  go_ret
  exact ⟨none,0,by rw [hn];rfl,by rw [hn];exact ⟨Sl.nil_,by simp [maxLen],by simp⟩,Below.refl _ _,by rw [hn];exact Nat.le_refl _⟩
 ·have he2:t.toList.isEmpty=false:=by simpa using he
  have hn:aJ_ t=Lib.splitB spB 0 (Lib.countB t spB) t:=by rw [aJ_,if_neg he]
  have hl:(aJ_ t).length=Lib.countB t spB+1:=by rw [hn];exact Lib.splitB_all spB de_ 0 _ t rfl
  have hle:Lib.countB t spB<=t.size:=Lib.countB_le spB de_ t.size t (Nat.le_refl _)
  have hz:∀ x ∈ aJ_ t,x.size<=t.size:=by rw [hn];exact jK_ spB 0 _ t
  have HL:=hd_ hl;have HN:=hd_ hn;have HM:=hd_ hm;have HZ:=hd_ hz
  clear hl hn hm hz
  go_enter Tryz.func142,Tryz.ntmps142
  go_wp2_with (go_at_call 122;refine (Tryz.strings_Split t spB m _ hs HM.out de_).mono ?_;rintro e w1 ⟨rfl,rfl⟩)
  go_ret
  refine ⟨some ⟨w.heap.size,0,none⟩,Lib.countB t spB+1,by rw [HL.out];rfl, ?_,aF_,by rw [HL.out];exact Nat.le_refl _⟩
  rw [← HN.out]
  exact yE_ w (aJ_ t) (by rw [HL.out];simp only [maxLen];omega) fun x hx=>by have:=HZ.out x hx;simp only [maxLen];omega
def alF_ (t:ByteArray) (w:World) (e:Ending) (w':World):Prop:=∃ A c,e=.returned (.tuple #[.slice A (aJ_ t).length c,.nilIface])/\Txs w' w'.heap.size A (aJ_ t)/\Below w.heap.size w w'/\(aJ_ t).length<=c
theorem afS_ (l:List Nd) (A:Option Addr) (c:Nat) (w:World) (hl:Nds w w.heap.size A l) (hsh:dP_ l) (hm:cQ_ w) (h:aM_ l=0) {n:Int} {t:ByteArray} (hnd:l.getD 0 ⟨0,.empty,0⟩=Nd.mk 9 t n) :
  Calls Tryz.prog 85 #[.slice A l.length c] w (alF_ t w):=by
 have HK:=hd_ (lA_ l A c w hl hsh hm h)
 have h0:=(Tr.of_check h).pos0
 obtain ⟨b,off,op,t',n',rfl,hb,ho,hnd',hts,d1,d2⟩:=hl.head0 h0
 rw [aD_ h0,hnd'] at hnd
 cases hnd
 have hsz:t.size<4294967281:=by have:=hsh _ (List.getElem_mem h0);rw [hnd'] at this;exact this
 have HMX:=hd_ hm
 have hlen:=hl.2.1
 unfold maxLen at hlen
 clear hl hsh hm h ho hnd'
 go_enter Tryz.func85,Tryz.ntmps85
 go_wp2_with (first
  | (go_at_call 45;refine HK.out.mono ?_;rintro e w1 ⟨rfl,hB1⟩;have e1:=(hB1.cell (p:=⟨b,off,none⟩) hb).trans d1;have e2:=(hB1.cell (p:=⟨b,off+1,none⟩) hb).trans d2)
  | (go_at_call 142;refine (adY_ t _ hsz (HMX.out.past hB1)).mono ?_;rintro e w2 ⟨A2,c2,rfl,htx,hB2,hcap2⟩;have HT:=hd_ htx;clear htx))
 go_ret2
 exact ⟨A2,c2,rfl,HT.out,hB1.trans (hB2.mono hB1.size),hcap2⟩
end
section
def cU_ (l:List ByteArray):Int:=((l.map ByteArray.size).sum:Nat)+(l.length:Int)-1
def eO_ (n width:Int) (last:Bool):Int:=if width<n then 1000*(n-width) else if last then 0 else (width-n)*(width-n)
def eU_ (l:List ByteArray):ByteArray:=⟨(Lib.join (l.map (·.data.toList)) [32]).toArray⟩
def w4_ (width:Int) (l:List ByteArray) (t:List (Int × Nat)) (k:Nat):Int:=eO_ (cU_ (l.take k)) width (decide (k=l.length))+(t.getD (k-1) (0,0)).1
def pV_ (width:Int) (l:List ByteArray) (t:List (Int × Nat)):Nat->Int × Nat
 | 0=>(-1,0)
 | k+1=>if (pV_ width l t k).1<0∨w4_ width l t (k+1)<=(pV_ width l t k).1 then (w4_ width l t (k+1),k+1) else pV_ width l t k
def tbl (width:Int):List ByteArray->List (Int × Nat)
 | []=>[(0,0)]
 | w::r=>pV_ width (w::r) (tbl width r) (r.length+1)::tbl width r
theorem akS_ (width:Int) (l:List ByteArray):∀ i,i<=l.length->(tbl width l).drop i=tbl width (l.drop i):=by
 induction l with
 | nil=>intro i hi;simp at hi;subst hi;rfl
 | cons w r ih =>
  intro i hi
  cases i with
  | zero=>rfl
  | succ i=>rw [tbl,List.drop_succ_cons,List.drop_succ_cons];exact ih i (by simpa using hi)
def c7_ (width:Int) (l:List ByteArray) (i:Nat):Int:=((tbl width l).getD i (0,0)).1
def d5_ (width:Int) (l:List ByteArray) (i:Nat):Nat:=((tbl width l).getD i (0,0)).2
def c5_ (width:Int) (l:List ByteArray) (i k:Nat):Int:=eO_ (cU_ ((l.drop i).take (k-i))) width (decide (k=l.length))+c7_ width l k
def b0_ (width:Int) (l:List ByteArray) (i:Nat):Nat->Int × Nat
 | 0=>(-1,0)
 | m+1=>if (b0_ width l i m).1<0∨c5_ width l i (i+m+1)<=(b0_ width l i m).1 then (c5_ width l i (i+m+1),m+1) else b0_ width l i m
theorem tS_ (width:Int) (l:List ByteArray) {i:Nat} (hi:i<=l.length) (j:Nat):(tbl width (l.drop i)).getD j (0,0)=(tbl width l).getD (i+j) (0,0):=by
 rw [← akS_ width l i hi,List.getD_eq_getElem?_getD,List.getD_eq_getElem?_getD,List.getElem?_drop]
theorem anV_ (width:Int) (l:List ByteArray) {i:Nat} (hi:i<l.length) {k:Nat} (h0:0<k):w4_ width (l.drop i) (tbl width (l.drop (i+1))) k=c5_ width l i (i+k):=by
 unfold w4_ c5_ c7_
 rw [tS_ width l om_,show i+1+(k-1)=i+k by omega,show i+k-i=k by omega,List.length_drop]
 have:decide (k=l.length-i)=decide (i+k=l.length):=by
  rw [Bool.eq_iff_iff];simp;omega
 rw [this]
theorem apF_ (width:Int) (l:List ByteArray) {i:Nat} (hi:i<l.length):∀ m,pV_ width (l.drop i) (tbl width (l.drop (i+1))) m=b0_ width l i m:=by
 intro m
 induction m with
 | zero=>rfl
 | succ m ih=>rw [pV_,b0_,ih,anV_ width l hi om_,Nat.add_assoc]
theorem yP_ (width:Int) (l:List ByteArray) {i:Nat} (hi:i<l.length):(tbl width l).getD i (0,0)=b0_ width l i (l.length-i):=by
 have h:=tS_ width l (Nat.le_of_lt hi) 0
 rw [Nat.add_zero] at h
 rw [← h,← apF_ width l hi]
 have hd:=List.drop_eq_getElem_cons hi
 rw [hd,tbl]
 simp only [List.getD_cons_zero,List.length_drop]
 congr 1
 omega
theorem lB_ (width:Int) (l:List ByteArray):c7_ width l l.length=0:=by
 have h:=tS_ width l (Nat.le_refl _) 0
 rw [Nat.add_zero] at h
 rw [c7_,← h,List.drop_length];rfl
theorem anP_ {n width:Int} {b:Bool} (_h:0<=width):0<=eO_ n width b:=by
 unfold eO_
 split
 ·omega
 ·split
  ·omega
  ·exact Int.mul_nonneg om_ om_
theorem anO_ {n width:Int} {b:Bool} (h0:0<=n) (hn:n<=1300) (_h:1<=width) (hw:width<=100):eO_ n width b<=1300000:=by
 unfold eO_
 split
 ·omega
 ·split
  ·omega
  ·have h1:(width-n)*(width-n)<=100*100:=Int.mul_le_mul om_ om_ om_ om_
   omega
theorem ah1_ (l:List ByteArray) (h:∀ t ∈ l,t.size<=20):(l.map ByteArray.size).sum<=20*l.length:=by
 induction l with
 | nil=>simp
 | cons t r ih =>
  have h1:=h t si_
  have h2:=ih (fun x hx=>h x (by simp [hx]))
  simp only [List.map_cons,List.sum_cons,List.length_cons];omega
theorem pO_ {l:List ByteArray} (h:∀ t ∈ l,t.size<=20) (h60:l.length<=60) (h0:0<l.length):0<=cU_ l/\cU_ l<=1300:=by
 have:=ah1_ l h
 unfold cU_;omega
structure Few (width:Int) (l:List ByteArray):Prop where
 len:l.length<=60
 small:∀ t ∈ l,t.size<=20
 lo:1<=width
 hi:width<=100
theorem Few.long {width:Int} {l:List ByteArray} (h:Few width l) {i k:Nat} (hik:i<k) (hk:k<=l.length):0<=cU_ ((l.drop i).take (k-i))/\cU_ ((l.drop i).take (k-i))<=1300:=by
 have hl:((l.drop i).take (k-i)).length=k-i:=by rw [List.length_take,List.length_drop];omega
 exact pO_ (fun t ht=>h.small t (List.mem_of_mem_drop (List.mem_of_mem_take ht))) (by rw [hl];have:=h.len;omega) (by rw [hl];omega)
theorem Few.scan {width:Int} {l:List ByteArray} (_h:Few width l) {i:Nat} (hc:∀ k,i<k->k<=l.length->0<=c5_ width l i k):∀ m,i+m<=l.length ->
  (m=0->b0_ width l i m=(-1,0))/\(0<m->0<=(b0_ width l i m).1/\1<=(b0_ width l i m).2/\(b0_ width l i m).2<=m/\c5_ width l i (i+(b0_ width l i m).2)=(b0_ width l i m).1 /\
   (∀ k,1<=k->k<=m->(b0_ width l i m).1<=c5_ width l i (i+k))/\∀ k,(b0_ width l i m).2<k->k<=m->c5_ width l i (i+k)≠(b0_ width l i m).1):=by
 intro m
 induction m with
 | zero=>intro _;exact ⟨fun _=>rfl,fun h=>by omega⟩
 | succ m ih =>
  intro hm
  refine ⟨fun h=>by omega,fun _=>?_⟩
  obtain ⟨h0,h1⟩:=ih om_
  have hcm:=hc (i+m+1) om_ om_
  rw [b0_]
  by_cases hz:m=0
  ·subst hz
   rw [h0 rfl]
   rw [if_pos (.inl de_)]
   refine ⟨hcm,Nat.le_refl _,Nat.le_refl _,rfl,fun k g1 g2=>?_,fun k g1 g2=>by simp only at g1;omega⟩
   obtain rfl:k=1:=by omega
   exact Int.le_refl _
  ·obtain ⟨g1,g2,g3,g4,g5,g6⟩:=h1 om_
   split
   ·rename_i hh
    have hle:c5_ width l i (i+m+1)<=(b0_ width l i m).1:=by
     rcases hh with hh|hh
     ·omega
     ·exact hh
    refine ⟨hcm,by simp,by simp,rfl,fun k q1 q2=>?_,fun k q1 q2=>by simp only at q1;omega⟩
    rcases Nat.lt_or_ge k (m+1) with q|q
    ·exact Int.le_trans hle (g5 k q1 om_)
    ·obtain rfl:k=m+1:=by omega
     exact Int.le_refl _
   ·rename_i hh
    have hlt:(b0_ width l i m).1<c5_ width l i (i+m+1):=by omega
    refine ⟨g1,g2,by omega,g4,fun k q1 q2=>?_,fun k q1 q2=>?_⟩
    ·rcases Nat.lt_or_ge k (m+1) with q|q
     ·exact g5 k q1 om_
     ·obtain rfl:k=m+1:=by omega
      exact Int.le_of_lt hlt
    ·rcases Nat.lt_or_ge k (m+1) with q|q
     ·exact g6 k q1 om_
     ·obtain rfl:k=m+1:=by omega
      rw [← Nat.add_assoc];omega
theorem dr38 (h:P:=by
 obtain ⟨b1,b2⟩:=h.long h1 h2
 have c1:=anP_ (n:=cU_ ((l.drop i).take (k-i))) (b:=decide (k=l.length)) (show 0<=width by have:=h.lo;omega)
 have c2:=anO_ (b:=decide (k=l.length)) b1 b2 h.lo h.hi
 unfold c5_
 omega):P:=h
theorem Few.least_bd {width:Int} {l:List ByteArray} (h:Few width l):∀ (d i:Nat),i+d=l.length->0<=c7_ width l i/\c7_ width l i<=1300000*d:=by
 intro d
 induction d using Nat.strongRecOn with
 | ind d ih =>
  intro i hi
  by_cases hd:d=0
  ·obtain rfl:i=l.length:=by omega
   rw [lB_];omega
  ·have hil:i<l.length:=by omega
   have hc:∀ k,i<k->k<=l.length->0<=c5_ width l i k/\c5_ width l i k<=1300000*d:=by
    intro k h1 h2
    obtain ⟨a1,a2⟩:=ih (l.length-k) om_ k om_
    exact dr38
   obtain ⟨_,hs⟩:=h.scan (i:=i) (fun k h1 h2=>(hc k h1 h2).1) (l.length-i) om_
   obtain ⟨g1,g2,g3,g4,_⟩:=hs om_
   unfold c7_
   rw [yP_ width l hil]
   refine ⟨g1, ?_⟩
   rw [← g4]
   exact (hc _ om_ om_).2
theorem Few.least {width:Int} {l:List ByteArray} (h:Few width l) {i:Nat} (hi:i<=l.length):0<=c7_ width l i/\c7_ width l i<=78000000:=by
 have:=h.least_bd (l.length-i) i om_
 have:=h.len
 omega
theorem Few.cost {width:Int} {l:List ByteArray} (h:Few width l) {i k:Nat} (h1:i<k) (h2:k<=l.length) :
  0<=eO_ (cU_ ((l.drop i).take (k-i))) width (decide (k=l.length))/\eO_ (cU_ ((l.drop i).take (k-i))) width (decide (k=l.length))<=1300000/\0<=c5_ width l i k/\c5_ width l i k<=80000000:=by
 obtain ⟨a1,a2⟩:=h.least h2
 exact dr38
theorem Few.at_ {width:Int} {l:List ByteArray} (h:Few width l) {i:Nat} (hi:i<l.length) :
  c7_ width l i=(b0_ width l i (l.length-i)).1/\d5_ width l i=(b0_ width l i (l.length-i)).2/\1<=d5_ width l i/\i+d5_ width l i<=l.length /\
  c5_ width l i (i+d5_ width l i)=c7_ width l i/\∀ k,d5_ width l i<k->i+k<=l.length->c5_ width l i (i+k)≠c7_ width l i:=by
 obtain ⟨_,hs⟩:=h.scan (i:=i) (fun k h1 h2=>(h.cost h1 h2).2.2.1) (l.length-i) om_
 obtain ⟨g1,g2,g3,g4,_,g6⟩:=hs om_
 have e1:c7_ width l i=(b0_ width l i (l.length-i)).1:=by rw [c7_,yP_ width l hi]
 have e2:d5_ width l i=(b0_ width l i (l.length-i)).2:=by rw [d5_,yP_ width l hi]
 rw [e1,e2]
 exact ⟨rfl,rfl,g2,by omega,g4,fun k q1 q2=>g6 k q1 om_⟩
def f4_ (width:Int) (l:List ByteArray):Nat->Nat->List ByteArray
 | 0,_=>[]
 | f+1,i=>if l.length<=i then [] else eU_ ((l.drop i).take (d5_ width l i))::f4_ width l f (i+d5_ width l i)
def gQ_ (width:Int) (l:List ByteArray) (i:Nat):List ByteArray:=f4_ width l (l.length-i) i
def eL_ (width:Int) (l:List ByteArray):List ByteArray:=gQ_ width l 0
theorem Few.linesG_fuel {width:Int} {l:List ByteArray} (h:Few width l):∀ (f g i:Nat),l.length<=i+f->l.length<=i+g->f4_ width l f i=f4_ width l g i:=by
 intro f
 induction f with
 | zero =>
  intro g i hf hg
  cases g with
  | zero=>rfl
  | succ g=>simp [f4_,show l.length<=i by omega]
 | succ f ih =>
  intro g i hf hg
  by_cases hi:l.length<=i
  ·cases g with
   | zero=>simp [f4_,hi]
   | succ g=>simp [f4_,hi]
  ·obtain ⟨_,_,h1,_⟩:=h.at_ (i:=i) om_
   cases g with
   | zero=>omega
   | succ g=>rw [f4_,f4_,if_neg hi,if_neg hi,ih g (i+d5_ width l i) om_ om_]
theorem Few.lines_step {width:Int} {l:List ByteArray} (h:Few width l) {i:Nat} (hi:i<l.length):gQ_ width l i=eU_ ((l.drop i).take (d5_ width l i))::gQ_ width l (i+d5_ width l i):=by
 obtain ⟨_,_,h1,h2,_⟩:=h.at_ hi
 unfold gQ_
 obtain ⟨d,hd⟩:∃ d,l.length-i=d+1:=⟨l.length-i-1,by omega⟩
 rw [hd,f4_,if_neg (show ¬ l.length<=i by omega),h.linesG_fuel d (l.length-(i+d5_ width l i)) (i+d5_ width l i) om_ om_]
theorem oI_ {width:Int} {l:List ByteArray} {i:Nat} (hi:l.length<=i):gQ_ width l i=[]:=by
 unfold gQ_
 rw [show l.length-i=0 by omega];rfl
theorem jX_ (l:List ByteArray) (h0:0<l.length):((eU_ l).size:Int)=cU_ l:=by
 have hl:∀ r:List ByteArray,Lib.lens (r.map (·.data.toList))=(r.map ByteArray.size).sum:=by
  intro r
  unfold Lib.lens
  congr 1
  rw [List.map_map]
  apply List.map_congr_left
  intro y _
  simp
 cases l with
 | nil=>simp at h0
 | cons x r =>
  have h1:=Lib.join_length x.data.toList (r.map (·.data.toList)) [32]
  have h2:(eU_ (x::r)).size=(Lib.join ((x::r).map (·.data.toList)) [32]).length:=by
   show (Lib.join ((x::r).map (·.data.toList)) [32]).toArray.size=_
   rw [List.size_toArray]
  have h3:=hl (x::r)
  rw [List.map_cons] at h3
  rw [h2,List.map_cons,h1,h3]
  simp only [cU_,List.length_map,List.length_cons,List.length_nil]
  omega
end
section
def c1_:List ByteArray->ByteArray
 | []=>.empty
 | l::r=>⟨#[35,32]⟩++l++⟨#[10]⟩++c1_ r
theorem ag0_ (a b:List ByteArray):c1_ (a++b)=c1_ a++c1_ b:=by
 induction a with
 | nil=>simp [c1_]
 | cons u r ih=>simp [c1_,ih,ByteArray.append_assoc]
theorem s6_ {l:List ByteArray} {k:Nat} (hk:k<l.length):c1_ (l.take (k+1))=c1_ (l.take k)++(⟨#[35,32]⟩++l[k]++⟨#[10]⟩):=by
 rw [List.take_succ_eq_append_getElem hk,ag0_]
 simp [c1_]
theorem nE_ {l:List ByteArray} (h:∀ s ∈ l,s.size<=1300):(c1_ l).size<=1303*l.length:=by
 induction l with
 | nil=>simp [c1_]
 | cons u r ih =>
  have h1:=ih (fun v hv=>h v (by simp [hv]))
  have h2:=h u si_
  simp only [c1_,ByteArray.size_append,List.length_cons]
  show 2+u.size+1+(c1_ r).size<=_
  omega
theorem Few.lines_small {width:Int} {l:List ByteArray} (h:Few width l):∀ (f i:Nat),(f4_ width l f i).length<=f/\∀ s ∈ f4_ width l f i,s.size<=1300:=by
 intro f
 induction f with
 | zero=>intro i;exact ⟨Nat.le_refl _,fun s hs=>by cases hs⟩
 | succ f ih =>
  intro i
  rw [f4_]
  split
  ·exact ⟨Nat.zero_le _,fun s hs=>by cases hs⟩
  ·obtain ⟨h1,h2⟩:=ih (i+d5_ width l i)
   refine ⟨by simp only [List.length_cons];omega,fun s hs=>?_⟩
   rcases List.mem_cons.1 hs with rfl|hs
   ·have hl:((l.drop i).take (d5_ width l i)).length<=60:=by
     rw [List.length_take,List.length_drop];have:=h.len;omega
    have hsm:∀ t ∈ (l.drop i).take (d5_ width l i),t.size<=20:=fun t ht=>h.small t (List.mem_of_mem_drop (List.mem_of_mem_take ht))
    rcases Nat.eq_zero_or_pos ((l.drop i).take (d5_ width l i)).length with h0|h0
    ·rw [List.eq_nil_of_length_eq_zero h0];exact Nat.zero_le _
    ·have:=jX_ _ h0
     have:=pO_ hsm hl h0
     omega
   ·exact h2 s hs
theorem Few.fill_small {width:Int} {l:List ByteArray} (h:Few width l):(eL_ width l).length<=60/\∀ s ∈ eL_ width l,s.size<=1300:=by
 have h1:=h.lines_small (l.length-0) 0
 have h2:=h.len
 exact ⟨by unfold eL_ gQ_;omega,h1.2⟩
end
section
open Go.RowKit
def gL_ (l:List ByteArray) (k:Nat):Int:=(((l.take k).map ByteArray.size).sum:Nat)+(l.length:Int)-1
theorem zJ_ (l:List ByteArray):gL_ l 0=(l.length:Int)-1:=by simp [gL_]
theorem acV_ {l:List ByteArray} {k:Nat} (h:l.length<=k):gL_ l k=cU_ l:=by rw [gL_,List.take_of_length_le h];rfl
theorem zI_ {l:List ByteArray} {k:Nat} (hk:k<l.length) {t:ByteArray} (ht:l[k]=t):gL_ l (k+1)=gL_ l k+t.size:=by
 unfold gL_
 rw [List.take_succ_eq_append_getElem hk,ht,List.map_append,List.sum_append]
 simp;omega
theorem afT_ {l:List ByteArray} (h:∀ t ∈ l,t.size<=20) (h60:l.length<=60) (k:Nat):-1<=gL_ l k/\gL_ l k<=1300:=by
 have h1:=ah1_ (l.take k) (fun t ht=>h t (List.mem_of_mem_take ht))
 have h2:(l.take k).length<=l.length:=by rw [List.length_take];omega
 unfold gL_;omega
theorem dq4 (h:P:=by
 go_wp2
 go_round
 case rel=>exact ⟨k+1,by omega,by go_num,by rw [HST.out]⟩
 case measure=>exact me_):P:=h
theorem dr40 (h:P:=by
 by_cases hlt:k<l.length
 first
 |
  ·obtain ⟨b,off,t,rfl,hb,ht,hts,hc⟩:=HN.out.one (Below.refl _ _) hlt
   have h2:=HS.out _ (List.getElem_mem hlt)
   rw [ht] at h2
   have HST:=hd_ (zI_ hlt ht)
   clear ht
   generalize gL_ l k=L at *
   exact dq4
  ·have hz:=acV_ (show l.length<=k by omega)
   have HZ:=hd_ hz;clear hz
   go_wp2
   go_ret
   exact ⟨by rw [HZ.out];rfl,rfl⟩
  done
 |
  ·obtain ⟨b,off,t,rfl,hb,ht,hts,hc⟩:=HN.out.one (Below.refl _ _) hlt
   have h2:=HS.out _ (List.getElem_mem hlt)
   rw [ht] at h2
   rcases Nat.eq_zero_or_pos k with hk0|hk0
   ·subst hk0
    have hst:=acS_ hlt
    rw [ht] at hst
    have HST:=hd_ hst
    rw [q6_]
    rw [Nat.add_zero] at hc
    clear ht hst hsz
    go_wp2
    go_round
    case rel=>exact ⟨1,by omega,rfl,by rw [HST.out]⟩
    case measure=>exact me_
   ·have hst:=zH_ hk0 hlt
    rw [ht] at hst
    have HST:=hd_ hst
    have k1:decide (0<k)=true:=decide_eq_true hk0
    have k2:decide ((0:Int)<(k:Int))=true:=decide_eq_true om_
    clear ht hst
    generalize gK_ l k=J at *
    exact dq4
  ·have hz:=n4_ (show l.length<=k by omega)
   have HZ:=hd_ hz;clear hz
   go_wp2
   go_ret
   exact ⟨by rw [HZ.out];rfl,rfl⟩
  done
 |
  ·obtain ⟨b,off,rfl,hb,_⟩:=HL.out.1.2 om_
   have hat:=HF.out.at_ hlt
   have hm1:=hat.2.2.1
   have hm2:=hat.2.2.2.1
   clear hat
   have hys:=HD.out.2 k om_ hlt
   have x1:wr.cell? ⟨gm,k,none⟩=some (.int .i64 (d5_ width l k:Nat)):=by rw [HYr.out.cell hlt];exact hys
   have hst:=HF.out.lines_step hlt
   have HLS:=hd_ hst;clear hst
   have hltm:=HYr.out.lt.2
   generalize d5_ width l k=mk at *
   have HYS:=hd_ hys;clear hys
   have hsub:=pY_ (l:=l) (i:=k) (k:=k+mk) om_ hm2
   rw [show k+mk-k=mk by omega] at hsub
   have hjs:=lX_ (l:=(l.drop k).take mk) (fun t ht=>HF.out.small t (List.mem_of_mem_drop (List.mem_of_mem_take ht))) om_ mk
   rw [n4_ om_] at hjs
   have HJ:Hid (∀ w2,Below w.heap.size w w2->Calls Tryz.prog 135 #[.slice (some ⟨b,off+k,none⟩) mk (c-k),.string ⟨#[32]⟩] w2 fun e w3=>e=.returned (.string (eU_ ((l.drop k).take mk)))/\Below w2.heap.size w2 w3):=hd_ (fun w2 hb2=>by
    have htx:=mF_ (HL.out.past hb2) (i:=k) (k:=k+mk) om_ hm2
    rw [show k+mk-k=mk by omega] at htx
    have h:=Tryz.strings_Join b (off+k) (c-k) ((l.drop k).take mk) ⟨#[32]⟩ w2 (fun j x hj=>by
     obtain ⟨b',off',e,_,hc⟩:=htx.1.2 om_
     cases e
     exact hc j _ (by rw [List.getElem?_map,hj];rfl)) (Nat.lt_of_lt_of_le hb hb2.size) om_ om_ (by
      have h2:(Lib.join (((l.drop k).take mk).map (·.data.toList)) [32]).length=(eU_ ((l.drop k).take mk)).size:=by
       show _=(Lib.join (((l.drop k).take mk).map (·.data.toList)) [32]).toArray.size
       rw [List.size_toArray]
      show (Lib.join (((l.drop k).take mk).map (·.data.toList)) [32]).length<=_
      omega)
    rw [hsub] at h
    exact h)
   have HSUB:=hd_ hsub;clear hsub
   generalize eU_ ((l.drop k).take mk)=J at *
   have hck:¬ c=k:=by omega
   have k2:(k:Int)<=(k:Int)+(mk:Int):=by omega
   have k3:(k:Int)+(mk:Int)<=(l.length:Int):=by omega
   have k5:(k:Int)<(l.length:Int):=by omega
   go_wp2_with (first
    | (go_at_call 135;refine (HJ.out _ HBr.out).mono ?_;rintro e w4 ⟨rfl,hB4⟩;have hsz4:=hB4.size;have HO4:=hd_ (aV_ HO.out hB4);have HY4:Hid (dB_ w4 w.heap.size gm l.length ys):=hd_ (aV_ HYr.out hB4);have HB4:=hd_ (HBr.out.trans (hB4.mono hszr));clear hB4)
    | (at_builtin;refine b4_ _ rfl (.tmp 91) (.tmp 102) _ rfl w.heap.size 9 iS (.string .empty) 1 16 Tryz.underlying72 hiS hzS hzS1 hzS2 rfl de_ _ done.length _ rfl (HO4.out.alloc _) _ _ 1 1 [.string J] rfl (Sl.lit (sz:=1) _ #[.string J] 9 1 rfl) (by simp [Value.oneCell']) (by simp only [maxLen];omega) om_ so_ ?_;intro v5 w5 hown5 hgr5 _;have HB5:Hid (Below w.heap.size w w5):=hd_ (bA_ (HB4.out.alloc HB4.out.size _) (HO4.out.alloc _) hgr5 (HB4.out.alloc HB4.out.size _).size (Nat.le_refl _));have HY5:Hid (dB_ w5 w.heap.size gm l.length ys):=hd_ ((World.ownsRow.alloc HY4.out _).kept hgr5 (qD_ HY4.out HO4.out de_));have HO5:=hd_ hown5;have x5:w5.cell? ⟨gm,k,none⟩=some (.int .i64 (mk:Nat)):=(by rw [HY5.out.cell hlt];exact HYS.out);clear hown5 hgr5))
   go_wp2
   go_roundw
   case measure=>exact me_
   case rel=>exact ⟨k+mk,done++[J],by omega,by go_num,by simpa using HO5.out,by simp;omega,by rw [HFL.out,HLS.out,List.append_assoc];rfl,(fun t ht=>by
    rcases List.mem_append.1 ht with ht|ht
    ·exact HSM.out t ht
    ·simp at ht;subst ht;exact hjs),HY5.out,HB5.out⟩
  ·have hen:=oI_ (width:=width) (l:=l) (i:=k) om_
   have HE:=hd_ hen;clear hen
   obtain ⟨A3,c3,hv3⟩:=sA_ HO.out
   subst hv3
   go_wp2
   go_ret2
   exact dr36):P:=h
theorem ajH_ (l:List ByteArray) (A:Option Addr) (n c:Nat) (hn:l.length=n) (w:World) (hl:Txs w w.heap.size A l) (h60:n<=60) (h20:∀ t ∈ l,t.size<=20) :
  Calls Tryz.prog 146 #[.slice A n c] w fun e w'=>e=.returned (.int .i64 (cU_ l))/\w=w':=by
 subst hn
 have HN:=hd_ hl;have HS:=hd_ h20;clear hl h20
 go_enter Tryz.func146,Tryz.ntmps146
 go_wp2
 go_loop [3,11] (fun m i=>∃ k:Nat,k<=l.length/\i=.int .i64 k/\m=.int .i64 (gL_ l k)) (fun _ i=>l.length-(intOf i).toNat)
 case atStart=>exact ⟨0,Nat.zero_le _,rfl,by rw [zJ_]⟩
 case round =>
  obtain ⟨k,hk,rfl,rfl⟩:=hrel
  obtain ⟨b1,b2⟩:=afT_ HS.out h60 k
  exact dr40
theorem afW_ {a:Int} (h0:0<=a) (h1:a<=100):0<=a*a/\a*a<=10000:=by
 have h2:a*a<=100*100:=Int.mul_le_mul h1 h1 h0 de_
 have h3:0<=a*a:=Int.mul_nonneg h0 h0
 omega
theorem anQ_ (n width:Int) (last:Bool) (w:World) (hn0:0<=n) (hn:n<=1300) (h1:1<=width) (h2:width<=100) :
  Calls Tryz.prog 145 #[.int .i64 n,.int .i64 width,.bool last] w fun e w'=>e=.returned (.int .i64 (eO_ n width last))/\w=w':=by
 by_cases h:width<n
 ·rw [eO_,if_pos h]
  go_enter Tryz.func145,Tryz.ntmps145
  go_wp2
  go_ret
  exact ⟨rfl,rfl⟩
 ·rw [eO_,if_neg h]
  cases last with
  | true =>
   go_enter Tryz.func145,Tryz.ntmps145
   go_wp2
   go_ret
   exact ⟨rfl,rfl⟩
  | false =>
   obtain ⟨g1,g2⟩:=afW_ (a:=width-n) om_ om_
   go_enter Tryz.func145,Tryz.ntmps145
   go_wp2
   go_ret
   exact ⟨rfl,rfl⟩
def iP_ (l:List ByteArray) (width:Int):Int:=if cE_ l≠0 then cE_ l else if width<1∨100<width then 1 else 0
theorem dr35 (h:P:=by
 go_enter Tryz.func144,Tryz.ntmps144
 go_wp2_with (go_at_call 141;refine HC.out.mono ?_;rintro e w1 ⟨rfl,rfl⟩)
 go_ret
 exact ⟨rfl,aF_⟩):P:=h
theorem z6_ (l:List ByteArray) (A:Option Addr) (n c:Nat) (hn:l.length=n) (width:Int) (w:World) (hl:Txs w w.heap.size A l) :
  Calls Tryz.prog 144 #[.slice A n c,.int .i64 width] w (Ret w (eQ_ (iP_ l width))):=by
 have HC:=hd_ (vR_ l A n c hn w hl)
 by_cases he:cE_ l=0
 ·rw [he,← fA_ rfl] at HC
  rw [iP_,if_neg (by simp [he])]
  clear he hl hn
  by_cases h1:width<1
  ·have k1:decide (width<1)=true:=by simpa using h1
   rw [if_pos (.inl h1),← d2_ de_]
   exact dr35
  ·have k1:decide (width<1)=false:=by simpa using h1
   by_cases h2:100<width
   ·have k2:decide (100<width)=true:=by simpa using h2
    rw [if_pos (.inr h2),← d2_ de_]
    exact dr35
   ·have k2:decide (100<width)=false:=by simpa using h2
    rw [if_neg om_,← fA_ rfl]
    exact dr35
 ·rw [← d2_ he] at HC
  rw [iP_,if_pos he,← d2_ he]
  generalize cE_ l=q at *
  clear he hl hn
  exact dr35
theorem Txs.cut {w:World} {b off B:Nat} {l:List ByteArray} (h:Txs w B (some ⟨b,off,none⟩) l) (k:Nat):Txs w B (some ⟨b,off+k,none⟩) (l.drop k):=by
 refine ⟨⟨by simp,fun hn=>?_⟩,by have:=h.2.1;rw [List.length_drop];omega,fun t ht=>h.2.2 t (List.mem_of_mem_drop ht)⟩
 rw [List.length_drop] at hn
 obtain ⟨b',off',e,hb,hc⟩:=h.1.2 om_
 cases e
 refine ⟨b,off+k,rfl,hb,fun j u hu=>?_⟩
 rw [Nat.add_assoc]
 exact hc (k+j) u (by rw [List.map_drop,List.getElem?_drop] at hu;exact hu)
theorem Txs.head {w:World} {A:Option Addr} {B:Nat} {l:List ByteArray} (h:Txs w B A l) {k:Nat} (hk:k<=l.length):Txs w B A (l.take k):=by
 have hl:(l.take k).length=k:=by rw [List.length_take];omega
 refine ⟨?_,by have:=h.2.1;omega,fun t ht=>h.2.2 t (List.mem_of_mem_take ht)⟩
 have:=h.1.head hk
 rw [Nat.mul_one,← List.map_take] at this
 rw [hl]
 exact this
theorem pH_ (a b:Int):(a==b)=decide (a=b):=by rw [Bool.eq_iff_iff];simp
def gK_ (l:List ByteArray) (k:Nat):ByteArray:=eU_ (l.take k)
theorem q6_ (l:List ByteArray):gK_ l 0=.empty:=by rfl
theorem n4_ {l:List ByteArray} {k:Nat} (h:l.length<=k):gK_ l k=eU_ l:=by rw [gK_,List.take_of_length_le h]
theorem acS_ {l:List ByteArray} (h:0<l.length):gK_ l 1=l[0]:=by
 cases l with
 | nil=>simp at h
 | cons t r =>
  show eU_ [t]=t
  unfold eU_
  rw [List.map_cons,List.map_nil,Lib.join_one]
theorem zH_ {l:List ByteArray} {k:Nat} (h0:0<k) (hk:k<l.length):gK_ l (k+1)=gK_ l k++⟨#[32]⟩++l[k]:=by
 cases l with
 | nil=>simp at hk
 | cons t r =>
  obtain ⟨j,rfl⟩:∃ j,k=j+1:=⟨k-1,by omega⟩
  have hj:j<r.length:=by simpa using hk
  apply ByteArray.ext
  apply Array.toList_inj.1
  unfold gK_ eU_
  simp only [List.take_succ_cons,List.map_cons,Lib.join_cons,ByteArray.data_append,Array.toList_append,List.getElem_cons_succ,List.map_take]
  rw [Lib.joinTail_take_succ _ _ j r[j].data.toList (by simp [hj])]
  simp
theorem lX_ {l:List ByteArray} (h20:∀ t ∈ l,t.size<=20) (h60:l.length<=60) (k:Nat):(gK_ l k).size<=1300:=by
 rcases Nat.eq_zero_or_pos (l.take k).length with h0|h0
 ·have:l.take k=[]:=List.eq_nil_of_length_eq_zero h0
  unfold gK_
  rw [this];decide
 ·have h1:=jX_ (l.take k) h0
  have h2:=pO_ (l:=l.take k) (fun t ht=>h20 t (List.mem_of_mem_take ht)) (by rw [List.length_take];omega) h0
  unfold gK_
  omega
def dD_ (w:World) (B:Nat) (A:Option Addr) (l:List Int):Prop:=Sl w B 1 A l.length (l.map (.int .i64))/\l.length<=maxLen
theorem dD_.one {w wr:World} {B:Nat} {A:Option Addr} {l:List Int} (h:dD_ w B A l) (hB:Below B w wr) {k:Nat} (hk:k<l.length) :
  ∃ b off v,A=some ⟨b,off,none⟩/\b<B/\l[k]=v/\wr.cell? ⟨b,off+k,none⟩=some (.int .i64 v):=by
 obtain ⟨b,off,u,h1,h2,h3,h4⟩:=h.1.one hk
 have hu:u=.int .i64 l[k]:=by simp [hk] at h3;exact h3.symm
 subst hu
 exact ⟨b,off,l[k],h1,h2,rfl,(hB.cell (p:=⟨b,off+k,none⟩) h2).trans h4⟩
theorem dD_.past {w w':World} {A:Option Addr} {l:List Int} (h:dD_ w w.heap.size A l) (hb:Below w.heap.size w w'):dD_ w' w'.heap.size A l:=⟨h.1.past hb,h.2⟩
theorem dD_.tail {w:World} {b off B c:Nat} {v:Int} {l:List Int} (h:dD_ w B (some ⟨b,off,none⟩) (v::l)) (hc:(v::l).length<=c):dD_ w B (if c=1 then some ⟨b,off,none⟩ else some ⟨b,off+1,none⟩) l:=by
 refine ⟨⟨by simp,fun hn=>?_⟩,by have:=h.2;simp only [List.length_cons] at this;omega⟩
 simp only [List.length_cons] at hc
 obtain ⟨b',off',e,hb,hcell⟩:=h.1.2 si_
 cases e
 rw [if_neg om_]
 refine ⟨b,off+1,rfl,hb,fun j u hu=>?_⟩
 rw [Nat.add_assoc]
 exact hcell (1+j) u (by rw [List.map_cons,Nat.add_comm,List.getElem?_cons_succ];exact hu)
theorem dD_.own {w:World} {base n:Nat} {A:Option Addr} {c:Nat} {l:List Int} (h:w.ownsRow base 3 1 (.slice A n c) n (l.map (.int .i64))) (hn:n=l.length) (hm:l.length<=maxLen):dD_ w w.heap.size A l:=by
 subst hn
 exact ⟨.of_own h,hm⟩
theorem tJ_ {w:World} {base:Nat} {e:TypeId} {size n:Nat} {A:Option Addr} {c:Nat} {xs:List Value} (h:w.ownsRow base e size (.slice A n c) n xs):n<=c:=by
 rcases h.2 with ⟨h1,h2⟩|⟨g,cap,cur,h1,_,_,h2,_⟩
 ·injection h1 with _ h3 _
  omega
 ·injection h1 with _ _ h3
  omega
theorem aoC_ (l:List Int):∀ u ∈ l.map (Value.int .i64),u.oneCell'=true:=by
 intro u hu
 obtain ⟨x,_,rfl⟩:=List.mem_map.1 hu
 rfl
theorem uI_:(Tryz.prog.info? 3).map (fun i=>(i.zero,i.size,i.bytes))=some (some (.int .i64 0),1,8):=by kernel_rfl
theorem vK_:(Tryz.prog.info? 9).map (fun i=>(i.zero,i.size,i.bytes))=some (some (.string .empty),1,16):=by kernel_rfl
theorem sA_ {w:World} {base:Nat} {e:TypeId} {size n:Nat} {v:Value} {xs:List Value} (h:w.ownsRow base e size v n xs):∃ A c,v=.slice A n c:=by
 rcases h.2 with ⟨rfl,rfl⟩|⟨g,cap,cur,rfl,_⟩
 ·exact ⟨none,0,rfl⟩
 ·exact ⟨_,cap,rfl⟩
theorem qD_ {w:World} {e f:TypeId} {u v:Value} {m n:Nat} {xs ys:List Value} {B C:Nat} {sz sz':Nat} (h1:w.ownsRow B e sz u m xs) (h2:w.ownsRow C f sz' v n ys) (hef:e≠f):u.ownBlock=none∨u.ownBlock≠v.ownBlock:=by
 rcases h1.2 with ⟨rfl,_⟩|⟨g,cap,cur,rfl,_,hg,_⟩
 ·exact .inl rfl
 ·refine .inr fun he=>?_
  rcases h2.2 with ⟨rfl,_⟩|⟨g',cap',cur',rfl,_,hg',_⟩
  ·simp [Value.ownBlock] at he
  ·simp only [Value.ownBlock,Option.some.injEq] at he
   subst he
   rw [hg] at hg'
   simp only [Option.some.injEq,Obj.cells.injEq] at hg'
   exact hef hg'.2.1
def dB_ (w:World) (B g n:Nat) (xs:List Value):Prop:=w.ownsRow B 3 1 (.slice (some ⟨g,0,none⟩) n n) n xs
theorem dB_.set {w:World} {B g n:Nat} {xs:List Value} (h:dB_ w B g n xs) (j:Nat) (v:Value):dB_ (w.setCell ⟨g,j,none⟩ v) B g n (xs.set j v):=(World.ownsRow.stored h j v).1
theorem dB_.other {w:World} {B g n g':Nat} {xs:List Value} (h:dB_ w B g n xs) (hne:g≠g') (j:Nat) (v:Value):dB_ (w.setCell ⟨g',j,none⟩ v) B g n xs :=
 World.ownsRow.kept (row:=some g') h ⟨rfl,rfl,rfl,by simp [World.setCell],fun k _ hk=>Below.heap_setCell _ _ _ _ (fun e=>hk (by simp [e]))⟩ (.inr (by simp [Value.ownBlock];exact hne))
theorem dB_.drewN {w:World} {B g n:Nat} {xs:List Value} (h:dB_ w B g n xs) (m:Nat):dB_ (w.drewN m) B g n xs:=h
theorem dB_.cell {w:World} {B g n:Nat} {xs:List Value} (h:dB_ w B g n xs) {j:Nat} (hj:j<n):w.cell? ⟨g,j,none⟩=xs[j]?:=World.ownsRow.cellAt h j om_
theorem dB_.some_ {w:World} {B g n:Nat} {xs:List Value} (h:dB_ w B g n xs) {j:Nat} (hj:j<n):∃ u,w.cell? ⟨g,j,none⟩=some u:=by
 have hl:=h.1
 rw [h.cell hj]
 exact ⟨_,List.getElem?_eq_getElem om_⟩
theorem dB_.free {w:World} {B g n:Nat} {xs:List Value} (h:dB_ w B g n xs) (j:Nat):w.frozen? ⟨g,j,none⟩=false:=World.ownsRow.frozenAt h j
theorem dB_.lt {w:World} {B g n:Nat} {xs:List Value} (h:dB_ w B g n xs):B<=g/\g<w.heap.size:=World.ownsRow.lt h g rfl
def hL_ (width:Int) (l:List ByteArray) (m:Nat) (xs ys:List Value):Prop :=
 (∀ j,m<=j->j<=l.length->xs[j]?=some (.int .i64 (c7_ width l j)))/\∀ j,m<=j->j<l.length->ys[j]?=some (.int .i64 (d5_ width l j:Nat))
def jB_ (width:Int) (l:List ByteArray) (i q:Nat) (xs ys:List Value):Prop :=
 xs[i]?=some (.int .i64 (b0_ width l i q).1)/\(0<q->ys[i]?=some (.int .i64 ((b0_ width l i q).2:Nat)))
theorem hL_.set {width:Int} {l:List ByteArray} {i:Nat} {xs ys:List Value} (h:hL_ width l (i+1) xs ys) (v u:Value):hL_ width l (i+1) (xs.set i v) (ys.set i u) :=
 ⟨fun j h1 h2=>by rw [List.getElem?_set_ne om_];exact h.1 j h1 h2,fun j h1 h2=>by rw [List.getElem?_set_ne om_];exact h.2 j h1 h2⟩
theorem hL_.set1 {width:Int} {l:List ByteArray} {i:Nat} {xs ys:List Value} (h:hL_ width l (i+1) xs ys) (v:Value):hL_ width l (i+1) (xs.set i v) ys :=
 ⟨fun j h1 h2=>by rw [List.getElem?_set_ne om_];exact h.1 j h1 h2,h.2⟩
theorem hL_.more {width:Int} {l:List ByteArray} {i:Nat} {xs ys:List Value} (hf:Few width l) (hi:i<l.length) (h:hL_ width l (i+1) xs ys) (hs:jB_ width l i (l.length-i) xs ys):hL_ width l i xs ys:=by
 obtain ⟨e1,e2,_⟩:=hf.at_ hi
 refine ⟨fun j h1 h2=>?_,fun j h1 h2=>?_⟩
 ·rcases Nat.eq_or_lt_of_le h1 with rfl|h3
  ·rw [hs.1,e1]
  ·exact h.1 j h3 h2
 ·rcases Nat.eq_or_lt_of_le h1 with rfl|h3
  ·rw [hs.2 om_,e2]
  ·exact h.2 j h3 h2
theorem ak8_ {width:Int} {l:List ByteArray} {i K:Nat} (hK:i<K) (h:(b0_ width l i (K-i-1)).1<0∨c5_ width l i K<=(b0_ width l i (K-i-1)).1):b0_ width l i (K-i)=(c5_ width l i K,K-i):=by
 obtain ⟨q,rfl⟩:∃ q,K=i+q+1:=⟨K-i-1,by omega⟩
 rw [show i+q+1-i-1=q by omega] at h
 rw [show i+q+1-i=q+1 by omega,b0_,if_pos h]
theorem apG_ {width:Int} {l:List ByteArray} {i K:Nat} (hK:i<K) (h:¬ ((b0_ width l i (K-i-1)).1<0∨c5_ width l i K<=(b0_ width l i (K-i-1)).1)):b0_ width l i (K-i)=b0_ width l i (K-i-1):=by
 obtain ⟨q,rfl⟩:∃ q,K=i+q+1:=⟨K-i-1,by omega⟩
 rw [show i+q+1-i-1=q by omega] at h ⊢
 rw [show i+q+1-i=q+1 by omega,b0_,if_neg h]
theorem Few.scan_bd {width:Int} {l:List ByteArray} (h:Few width l) {i:Nat}:∀ q,i+q<=l.length->-1<=(b0_ width l i q).1/\(b0_ width l i q).1<=80000000/\(b0_ width l i q).2<=q/\((b0_ width l i q).1<0->q=0):=by
 intro q hq
 obtain ⟨h0,h1⟩:=h.scan (i:=i) (fun k a b=>(h.cost a b).2.2.1) q hq
 rcases Nat.eq_zero_or_pos q with hz|hz
 ·rw [h0 hz];exact ⟨by decide,by decide,by simp,fun _=>hz⟩
 ·obtain ⟨g1,g2,g3,g4,_⟩:=h1 hz
  rw [← g4]
  have:=(h.cost (i:=i) (k:=i+(b0_ width l i q).2) om_ om_).2.2.2
  exact ⟨by rw [g4];omega,this,g3,fun hh=>by rw [g4] at hh;omega⟩
theorem mF_ {w:World} {B b off:Nat} {l:List ByteArray} (h:Txs w B (some ⟨b,off,none⟩) l) {i k:Nat} (hik:i<=k) (hk:k<=l.length):Txs w B (some ⟨b,off+i,none⟩) ((l.drop i).take (k-i)) :=
 (h.cut i).head (by rw [List.length_drop];omega)
theorem pY_ {l:List ByteArray} {i k:Nat} (_hik:i<=k) (hk:k<=l.length):((l.drop i).take (k-i)).length=k-i:=by rw [List.length_take,List.length_drop];omega
theorem jB_.yes {width:Int} {l:List ByteArray} {i K:Nat} {xs ys:List Value} {q v:Int} (hx:xs.length=(l.length+1)*1) (hy:ys.length=l.length*1) (hi:i<l.length) (h:b0_ width l i (K-i)=(q,K-i)) (hv:v=((K-i:Nat):Int)) :
  jB_ width l i (K+1-i-1) (xs.set i (.int .i64 q)) (ys.set i (.int .i64 v)):=by
 subst hv
 rw [show K+1-i-1=K-i by omega]
 refine ⟨?_,fun _=>?_⟩
 ·rw [List.getElem?_set_self om_,h]
 ·rw [List.getElem?_set_self om_,h]
theorem jB_.no {width:Int} {l:List ByteArray} {i K:Nat} {xs ys:List Value} (h:b0_ width l i (K-i)=b0_ width l i (K-i-1)) (hs:jB_ width l i (K-i-1) xs ys) (hq:0<K-i-1):jB_ width l i (K+1-i-1) xs ys:=by
 rw [show K+1-i-1=K-i by omega]
 exact ⟨by rw [h];exact hs.1,fun _=>by rw [h];exact hs.2 hq⟩
def ae4_ (xs:List ByteArray) (w:World) (e:Ending) (w':World):Prop:=∃ A c,e=.returned (.tuple #[.slice A xs.length c,.nilIface])/\Txs w' w'.heap.size A xs/\Below w.heap.size w w'
theorem qX_ {w:World} {B g n:Nat} (h:w.ownsRow B 3 1 (.slice (some ⟨g,0,none⟩) n n) n (madeCells (Value.int .i64 0).cells (n*1)).toList):dB_ w B g n (List.replicate n (.int .i64 0)):=by
 have e:(madeCells (Value.int .i64 0).cells (n*1)).toList=List.replicate n (.int .i64 0):=by
  rw [Nat.mul_one];exact toList_madeCells_one _ _
 rw [e] at h
 exact h
theorem t4_ (h:P:=by
 go_wp2
 go_roundw
 case measure=>exact me_
 first
 |
  case rel=>exact ⟨K+1,_,_,by omega,by omega,by go_num,((HX.out.drewN _).set i _).other HNE.out i _,((HY.out.drewN _).other (fun e=>HNE.out e.symm) i _).set i _,HD.out.set _ _,jB_.yes HX.out.1 HY.out.1 om_ HSY.out om_,((below_drewN HB.out _).setCell (p:=⟨gl,i,none⟩) HX.out.lt.1 _).setCell (p:=⟨gm,i,none⟩) HY.out.lt.1 _⟩
  done
 |
  case rel=>exact ⟨K+1,xs,ys,by omega,by omega,by go_num,HX.out.drewN _,HY.out.drewN _,HD.out,jB_.no (by rw [HSN.out,HSE.out]) HS.out HQ.out,below_drewN HB.out _⟩
  done
 |
  case rel=>exact ⟨j-1,by omega,by omega,by go_num,HDR.out.drewN _⟩
  done
 |
  case rel=>exact ⟨q+1,_,by omega,by go_num,(HX.out.drewN _).set i _,HD.out.set _,by rw [List.getElem?_set_self (by rw [HX.out.1];omega),HSY.out],(below_drewN HB.out _).setCell (p:=⟨gl,i,none⟩) (by rw [HGL.out];exact Nat.le_refl _) _⟩):P:=h
theorem dr36 (h:P:=by
 have e:eL_ width l=done:=by rw [HFL.out,HE.out,List.append_nil]
 refine ⟨A3,c3,by rw [e];rfl, ?_,HBr.out⟩
 rw [e]
 refine ⟨?_,by simp only [maxLen];omega,fun t ht=>by have:=HSM.out t ht;simp only [maxLen];omega⟩
 have:=Sl.of_own HO.out
 exact this):P:=h
theorem dr41 (h:P:=by
 have hszr:=hB.size
 first
 |
  clear ho hfl hsm hy hB HO0 HX HB
  exact dr40
  done
 |
  clear hx hy hd hB hsc HX1 HY1 HD1 HS1 HB1
  by_cases hlt:K<=l.length
  ·have x1:wr.cell? ⟨gl,i,none⟩=some (.int .i64 (b0_ width l i (K-i-1)).1):=by rw [HX.out.cell om_];exact HS.out.1
   have x2:wr.cell? ⟨gl,K,none⟩=some (.int .i64 (c7_ width l K)):=by rw [HX.out.cell om_];exact HD.out.1 K om_ hlt
   obtain ⟨u2,hu2⟩:=HY.out.some_ (j:=i) om_
   have f1:=HX.out.free i
   have f2:=HY.out.free i
   have hbd:=HF.out.scan_bd (i:=i) (K-i-1) om_
   have hct:=HF.out.cost (i:=i) (k:=K) om_ hlt
   have hle:=HF.out.least hlt
   have hlg:=HF.out.long (i:=i) (k:=K) om_ hlt
   have hcs:c5_ width l i K=eO_ (cU_ ((l.drop i).take (K-i))) width ((K:Int)==(l.length:Int))+c7_ width l K:=by
    have e:decide (K=l.length)=((K:Int)==(l.length:Int)):=by rw [pH_,Bool.eq_iff_iff];simp;omega
    rw [c5_,e]
   have hbb:eO_ (cU_ ((l.drop i).take (K-i))) width (decide (K=l.length))=eO_ (cU_ ((l.drop i).take (K-i))) width ((K:Int)==(l.length:Int)):=by
    have e:decide (K=l.length)=((K:Int)==(l.length:Int)):=by rw [pH_,Bool.eq_iff_iff];simp;omega
    rw [e]
   rw [hbb] at hct
   have HY1:=hd_ (fun h=>ak8_ (width:=width) (l:=l) (i:=i) (K:=K) om_ h)
   have HN1:=hd_ (fun h=>apG_ (width:=width) (l:=l) (i:=i) (K:=K) om_ h)
   have HLN:Hid (∀ nq,Calls Tryz.prog 146 #[.slice (some ⟨b,off+i,none⟩) (K-i) (c-i)] (wr.drewN nq) fun e w'=>e=.returned (.int .i64 (cU_ ((l.drop i).take (K-i))))/\w'=wr.drewN nq):=hd_ (fun nq =>
    (ajH_ ((l.drop i).take (K-i)) (some ⟨b,off+i,none⟩) (K-i) (c-i) (pY_ om_ hlt) (wr.drewN nq) (mF_ (HL.out.past (w':=wr.drewN nq) (below_drewN HB.out nq)) om_ hlt) om_ (fun t ht=>HF.out.small t (List.mem_of_mem_drop (List.mem_of_mem_take ht)))).mono fun _ _ ⟨h1,h2⟩=>⟨h1,h2.symm⟩)
   have HBD:Hid (∀ nq,Calls Tryz.prog 145 #[.int .i64 (cU_ ((l.drop i).take (K-i))),.int .i64 width,.bool ((K:Int)==(l.length:Int))] (wr.drewN nq) fun e w'=>e=.returned (.int .i64 (eO_ (cU_ ((l.drop i).take (K-i))) width ((K:Int)==(l.length:Int))))/\w'=wr.drewN nq):=hd_ (fun nq =>
    (anQ_ (cU_ ((l.drop i).take (K-i))) width ((K:Int)==(l.length:Int)) (wr.drewN nq) hlg.1 hlg.2 hw1 hw2).mono fun _ _ ⟨h1,h2⟩=>⟨h1,h2.symm⟩)
   have HCS:=hd_ hcs
   clear hcs hbb hlg
   generalize eO_ (cU_ ((l.drop i).take (K-i))) width ((K:Int)==(l.length:Int))=bd at *
   generalize cU_ ((l.drop i).take (K-i))=LG at *
   generalize c7_ width l K=lK at *
   generalize hS:b0_ width l i (K-i-1)=S at *
   obtain ⟨S1,S2⟩:=S
   simp only at x1 hbd
   have HSE:=hd_ hS
   have HZS:Hid (K-i-1=0->S1=-1):=hd_ (fun h=>by rw [h] at hS;have:=congrArg Prod.fst hS;exact this.symm)
   clear hS
   have hci:¬ c=i:=by omega
   have k1:IntKind.i64.wrap (bd+lK)=bd+lK:=IntWalk.i64_in _ om_
   have k2:(i:Int)<=(K:Int):=by omega
   have k3:(K:Int)<=(l.length:Int):=by omega
   have k4:(K:Int)<(l.length:Int)+1:=by omega
   have k5:(i:Int)<(l.length:Int):=by omega
   go_wp2
   go_quiet (first
    | (go_at_call 146;exact Calls.quiet_of_same (HLN.out _))
    | (go_at_call 145;exact Calls.quiet_of_same (HBD.out _)))
   clear k1
   by_cases t1:S1<0
   ·have z1:decide (S1<0)=true:=decide_eq_true t1
    have hsy:=HY1.out (.inl t1)
    rw [HCS.out] at hsy
    have HSY:=hd_ hsy;clear hsy t1
    exact t4_
   ·have z1:decide (S1<0)=false:=decide_eq_false t1
    by_cases t2:bd+lK<=S1
    ·have z2:decide (bd+lK<=S1)=true:=decide_eq_true t2
     have hsy:=HY1.out (.inr (by rw [HCS.out];exact t2))
     rw [HCS.out] at hsy
     have HSY:=hd_ hsy;clear hsy t1 t2
     exact t4_
    ·have z2:decide (bd+lK<=S1)=false:=decide_eq_false t2
     have hq:0<K-i-1:=by
      rcases Nat.eq_zero_or_pos (K-i-1) with h0|h0
      ·have:=HZS.out h0;omega
      ·exact h0
     have hsn:=HN1.out (by rw [HCS.out];omega)
     have HSN:=hd_ hsn;have HQ:=hd_ hq;clear hsn t1 t2 hq
     exact t4_
  ·obtain rfl:K=l.length+1:=by omega
   go_wp2
   go_roundw
   case measure=>simp [intOf]
   case rel=>exact ⟨i,xs,ys,by omega,by go_num,HX.out,HY.out,HD.out.more HF.out om_ (by rw [show l.length-i=l.length+1-i-1 by omega];exact HS.out),HB.out⟩):P:=h
theorem ao7_ (l:List ByteArray) (A:Option Addr) (n c:Nat) (hn:l.length=n) (hcap:n<=c) (width:Int) (w:World) (hl:Txs w w.heap.size A l) (hf:Few width l) (he:iP_ l width=0) :
  Calls Tryz.prog 86 #[.slice A n c,.int .i64 width] w (ae4_ (eL_ width l) w):=by
 have HC:=hd_ (z6_ l A n c hn width w hl)
 rw [he,← fA_ rfl] at HC
 have hw1:=hf.lo
 have hw2:=hf.hi
 have hl60:=hf.len
 obtain ⟨i0,hi0,hz0,hz1,hz2⟩:=info_parts uI_
 obtain ⟨iS,hiS,hzS,hzS1,hzS2⟩:=info_parts vK_
 subst hn
 have HL:=hd_ hl;have HF:=hd_ hf
 clear hl hf he
 go_enter Tryz.func86,Tryz.ntmps86
 go_wp2_with (first
  | (go_at_call 144;refine HC.out.mono ?_;rintro e w1 ⟨rfl,hB1⟩;have hs1:=hB1.size)
  | (at_make;(fail_if_success have hz:=hR2);refine wpList_make_full _ rfl (.tmp 24) (.tmp 24) 73 rfl w.heap.size 3 i0 (.int .i64 0) 1 Tryz.underlying73 hi0 hz0 hz1 .i64 .i64 _ _ (l.length+1) rfl rfl rfl rfl (by rw [hz2];omega) (by simp only [maxLen];omega) hs1 ?_;intro w2 hown hg;have hR2:True:=trivial;have HR2:=hd_ (qX_ hown);have HB2:Hid (Below w.heap.size w w2):=hd_ (hB1.grown hg hs1 si_);have hs2:=HB2.out.size;clear hown hg)
  | (at_make;refine wpList_make_full _ rfl (.tmp 26) (.tmp 26) 73 rfl w.heap.size 3 i0 (.int .i64 0) 1 Tryz.underlying73 hi0 hz0 hz1 .i64 .i64 _ _ l.length rfl rfl rfl rfl (by rw [hz2];omega) (by simp only [maxLen];omega) hs2 ?_;intro w3 hown hg;have HR3:=hd_ (qX_ hown);have HB3:Hid (Below w.heap.size w w3):=hd_ (HB2.out.grown hg hs2 si_);have HR2':Hid (dB_ w3 w.heap.size w1.heap.size (l.length+1) (List.replicate (l.length+1) (.int .i64 0))):=hd_ (World.ownsRow.kept HR2.out hg (.inr (by simp [Value.ownBlock])));clear hown hg))
 obtain ⟨gl,hgl⟩:∃ g,w1.heap.size=g:=⟨_,rfl⟩
 obtain ⟨gm,hgm⟩:∃ g,w2.heap.size=g:=⟨_,rfl⟩
 have hgt:=HR2.out.lt.2
 rw [hgl] at HR2' hgt ⊢
 rw [hgm] at HR3 hgt ⊢
 have hne:gl≠gm:=by omega
 have hne2:¬ gl=gm:=hne
 have hne3:¬ gm=gl:=fun e=>hne e.symm
 have HNE:=hd_ hne
 have hdz:hL_ width l l.length (List.replicate (l.length+1) (.int .i64 0)) (List.replicate l.length (.int .i64 0)):=by
  refine ⟨fun j h1 h2=>?_,fun j h1 h2=>by omega⟩
  obtain rfl:j=l.length:=by omega
  rw [lB_];simp
 have HZ:=hd_ hdz
 clear hgl hgm hgt hne HR2 HB2 hs2 hdz HC hi0 hz0 hz1 hz2
 generalize List.replicate (l.length+1) (Value.int .i64 0)=xs0 at *
 generalize List.replicate l.length (Value.int .i64 0)=ys0 at *
 go_loopw [10] (fun i wr=>∃ (m:Nat) (xs ys:List Value),m<=l.length/\i=.int .i64 ((m:Int)-1)/\dB_ wr w.heap.size gl (l.length+1) xs/\dB_ wr w.heap.size gm l.length ys/\hL_ width l m xs ys/\Below w.heap.size w wr) (fun i _=>(intOf i+1).toNat)
 case atStart=>exact ⟨l.length,_,_,Nat.le_refl _,rfl,HR2'.out,HR3.out,HZ.out,HB3.out⟩
 case round =>
  obtain ⟨m,xs,ys,hm,rfl,hx,hy,hd,hB⟩:=hrel
  have HX:=hd_ hx;have HY:=hd_ hy;have HD:=hd_ hd;have HB:=hd_ hB
  have hsz:=hB.size
  clear hx hy hd hB HR2' HR3 HZ HB3
  cases m with
  | zero =>
   rw [show (((0:Nat):Int)-1)=-1 from rfl]
   go_wp2
   have ho0:wr.ownsRow w.heap.size 9 1 (.slice none 0 0) 0 []:=World.ownsRow_nil _ _ _ _
   have HO0:=hd_ ho0;clear ho0
   go_loopw [13,14] (fun v i w'=>∃ (k:Nat) (done:List ByteArray),k<=l.length/\i=.int .i64 k/\w'.ownsRow w.heap.size 9 1 v done.length (done.map .string)/\done.length<=k/\eL_ width l=done++gQ_ width l k/\(∀ t ∈ done,t.size<=1300)/\dB_ w' w.heap.size gm l.length ys/\Below w.heap.size w w') (fun _ i _=>l.length-(intOf i).toNat)
   case atStart=>exact ⟨0,[],by omega,rfl,HO0.out,by simp,rfl,by simp,HY.out,HB.out⟩
   case round =>
    obtain ⟨k,done,hk,rfl,ho,hdk,hfl,hsm,hy,hB⟩:=hrel
    have HO:=hd_ ho;have HFL:=hd_ hfl;have HSM:=hd_ hsm;have HYr:=hd_ hy;have HBr:=hd_ hB
    exact dr41
  | succ i =>
   rw [show (((i+1:Nat):Int)-1)=(i:Int) from by omega]
   obtain ⟨b,off,rfl,hb,_⟩:=HL.out.1.2 om_
   obtain ⟨u1,hu1⟩:=HX.out.some_ (j:=i) om_
   have hf1:=HX.out.free i
   have hlt1:=HX.out.lt.2
   have hlt2:=HY.out.lt.2
   go_wp2
   have HX1:=hd_ (HX.out.set i (.int .i64 (-1)))
   have HY1:=hd_ (HY.out.other (g':=gl) (fun e=>HNE.out e.symm) i (.int .i64 (-1)))
   have HD1:=hd_ (HD.out.set1 (i:=i) (.int .i64 (-1)))
   have HS1:Hid (jB_ width l i 0 (xs.set i (.int .i64 (-1))) ys):=hd_ ⟨by rw [List.getElem?_set_self (by rw [HX.out.1];omega)];rfl,fun h=>by omega⟩
   have HB1:=hd_ (HB.out.setCell (p:=⟨gl,i,none⟩) HX.out.lt.1 (.int .i64 (-1)))
   clear hu1 hf1 HX HY HD HB
   generalize wr.setCell ⟨gl,i,none⟩ (.int .i64 (-1))=wo at *
   generalize xs.set i (.int .i64 (-1))=xs1 at *
   go_loopw [11,12] (fun k _ wr=>∃ (K:Nat) (xs ys:List Value),i+1<=K/\K<=l.length+1/\k=.int .i64 (K:Nat)/\dB_ wr w.heap.size gl (l.length+1) xs/\dB_ wr w.heap.size gm l.length ys/\hL_ width l (i+1) xs ys/\jB_ width l i (K-i-1) xs ys/\Below w.heap.size w wr) (fun k _ _=>l.length+1-(intOf k).toNat)
   case atStart=>exact ⟨i+1,xs1,ys,by omega,by omega,by go_num,HX1.out,HY1.out,HD1.out,by rw [show i+1-i-1=0 by omega];exact HS1.out,HB1.out⟩
   case round =>
    obtain ⟨K,xs,ys,hK1,hK2,rfl,hx,hy,hd,hsc,hB⟩:=hrel
    have HX:=hd_ hx;have HY:=hd_ hy;have HD:=hd_ hd;have HB:=hd_ hB;have HS:=hd_ hsc
    exact dr41
theorem rZ_ (l:List ByteArray) (A:Option Addr) (n c:Nat) (hn:l.length=n) (w:World) (hl:Txs w w.heap.size A l) (h60:n<=60) (h20:∀ t ∈ l,t.size<=20) :
  Calls Tryz.prog 97 #[.slice A n c] w fun e w'=>e=.returned (.string (eU_ l))/\w=w':=by
 subst hn
 have HN:=hd_ hl;have HS:=hd_ h20;clear hl h20
 go_enter Tryz.func97,Tryz.ntmps97
 go_wp2
 go_loop [3,4] (fun s i=>∃ k:Nat,k<=l.length/\i=.int .i64 k/\s=.string (gK_ l k)) (fun _ i=>l.length-(intOf i).toNat)
 case atStart=>exact ⟨0,Nat.zero_le _,rfl,by rw [q6_];rfl⟩
 case round =>
  obtain ⟨k,hk,rfl,rfl⟩:=hrel
  have hsz:=lX_ HS.out h60 k
  exact dr40
theorem dr37 (h:P:=by
 go_enter Tryz.func96,Tryz.ntmps96
 go_wp2_with (go_at_call 97;refine HJ.out.mono ?_;rintro e w' ⟨rfl,rfl⟩)
 go_ret
 exact ⟨rfl,rfl⟩):P:=h
theorem q1_ (l:List ByteArray) (A:Option Addr) (n c:Nat) (hn:l.length=n) (width:Int) (last:Bool) (w:World) (hl:Txs w w.heap.size A l) (h0:0<n) (h60:n<=60) (h20:∀ t ∈ l,t.size<=20) (h1:1<=width) (h2:width<=100) :
  Calls Tryz.prog 96 #[.slice A n c,.int .i64 width,.bool last] w fun e w'=>e=.returned (.int .i64 (eO_ (cU_ l) width last))/\w=w':=by
 have HJ:=hd_ (rZ_ l A n c hn w hl h60 h20)
 obtain ⟨g1,g2⟩:=pO_ h20 om_ (show 0<l.length by omega)
 have hs:=jX_ l om_
 generalize eU_ l=J at *
 generalize cU_ l=L at *
 subst hs
 clear hl h20
 by_cases h:width<(J.size:Int)
 ·have k1:decide (width<(J.size:Int))=true:=decide_eq_true h
  rw [eO_,if_pos h]
  exact dr37
 ·have k1:decide (width<(J.size:Int))=false:=decide_eq_false h
  rw [eO_,if_neg h]
  cases last with
  | true =>
   exact dr37
  | false =>
   obtain ⟨g3,g4⟩:=afW_ (a:=width-(J.size:Int)) om_ om_
   exact dr37
def jT_ (width:Int) (l:List ByteArray) (m:Nat) (xs:List Value):Prop:=∀ j,m<=j->j<=l.length->xs[j]?=some (.int .i64 (c7_ width l j))
theorem jT_.set {width:Int} {l:List ByteArray} {i:Nat} {xs:List Value} (h:jT_ width l (i+1) xs) (v:Value):jT_ width l (i+1) (xs.set i v) :=
 fun j h1 h2=>by rw [List.getElem?_set_ne om_];exact h j h1 h2
theorem jT_.more {width:Int} {l:List ByteArray} {i:Nat} {xs:List Value} (hf:Few width l) (hi:i<l.length) (h:jT_ width l (i+1) xs) (hs:xs[i]?=some (.int .i64 (b0_ width l i (l.length-i)).1)):jT_ width l i xs:=by
 obtain ⟨e1,_⟩:=hf.at_ hi
 intro j h1 h2
 rcases Nat.eq_or_lt_of_le h1 with rfl|h3
 ·rw [hs,e1]
 ·exact h j h3 h2
def gA_ (w w':World):Prop:=∃ n,w'=w.drewN n
theorem gA_.refl (w:World):gA_ w w:=⟨0,rfl⟩
theorem gA_.drewN {a b:World} (h:gA_ a b) (n:Nat):gA_ a (b.drewN n):=by
 obtain ⟨m,rfl⟩:=h
 exact ⟨m+n,by rw [World.drewN_drewN]⟩
theorem gA_.irow {a b:World} (h:gA_ a b) {B g n:Nat} {xs:List Value} (hx:dB_ a B g n xs):dB_ b B g n xs:=by obtain ⟨m,rfl⟩:=h;exact hx
theorem gA_.own {a b:World} (h:gA_ a b) {B n:Nat} {e:TypeId} {v:Value} {xs:List Value} (hx:a.ownsRow B e 1 v n xs):b.ownsRow B e 1 v n xs:=by obtain ⟨m,rfl⟩:=h;exact hx
theorem gA_.below {a b:World} (h:gA_ a b) {B:Nat} {w:World} (hx:Below B w a):Below B w b:=by obtain ⟨m,rfl⟩:=h;exact below_drewN hx m
def aa8_ (xs:List ByteArray) (w:World) (e:Ending) (w':World):Prop:=∃ A c,e=.returned (.slice A xs.length c)/\Txs w' w'.heap.size A xs/\Below w.heap.size w w'
theorem agK_ (width:Int) (l:List ByteArray) (i q:Nat):(b0_ width l i (q+1)).1=if (b0_ width l i q).1<0∨c5_ width l i (i+q+1)<(b0_ width l i q).1 then c5_ width l i (i+q+1) else (b0_ width l i q).1:=by
 rw [b0_]
 by_cases h1:(b0_ width l i q).1<0
 ·rw [if_pos (.inl h1),if_pos (.inl h1)]
 ·by_cases h2:c5_ width l i (i+q+1)<(b0_ width l i q).1
  ·rw [if_pos (.inr om_),if_pos (.inr h2)]
  ·rw [if_neg (c:=_<0∨c5_ width l i (i+q+1)<_) om_]
   by_cases h3:c5_ width l i (i+q+1)<=(b0_ width l i q).1
   ·rw [if_pos (.inr h3)];simp only;omega
   ·rw [if_neg om_]
theorem dr39 (h:P:=by
 go_wp2
 go_quiet ((go_at_call 96;exact Calls.quiet_of_same (HLN.out _)))
 clear k1 k2 k3 k4 k5 k6 k7 k8
 first
 |
  exact t4_
  done
 |
  go_wp2_with (first
   | (go_at_call 97;refine (HJ.out _).mono ?_;rintro e w4 ⟨rfl,rfl⟩)
   | (at_builtin;refine b4_ _ rfl (.tmp 104) (.tmp 112) _ rfl w.heap.size 9 iS (.string .empty) 1 16 Tryz.underlying72 hiS hzS hzS1 hzS2 rfl de_ _ done.length _ rfl (World.ownsRow.alloc (gA_.own ⟨_,rfl⟩ HOw.out) _) _ _ 1 1 [.string J] rfl (Sl.lit (sz:=1) _ #[.string J] 9 1 rfl) (by simp [Value.oneCell']) (by simp only [maxLen];omega) om_ (by have:=HBw.out.size;simp;omega) ?_;intro v5 w5 hown5 hgr5 _;have HB5:Hid (Below w.heap.size w w5):=hd_ (bA_ ((below_drewN HBw.out _).alloc HBw.out.size _) (World.ownsRow.alloc (gA_.own ⟨_,rfl⟩ HOw.out) _) hgr5 (((below_drewN HBw.out _).alloc HBw.out.size _).size) (Nat.le_refl _));have HX5:Hid (dB_ w5 gl gl (l.length+1) xs):=hd_ ((World.ownsRow.alloc (dB_.drewN HXw.out _) _).kept hgr5 (qD_ HXw.out HOw.out de_));have HO5:=hd_ hown5;clear hown5 hgr5))
  go_roundw
  case measure=>exact me_
  case rel=>exact ⟨k+j,done++[J],by omega,by go_num,by simpa using HO5.out,by simp;omega,by rw [HFL.out,HLS.out,List.append_assoc];rfl,(fun t ht=>by
   rcases List.mem_append.1 ht with ht|ht
   ·exact HSM.out t ht
   ·simp at ht;subst ht;exact hjs),HX5.out,HB5.out⟩):P:=h
theorem af0_ (l:List ByteArray) (A:Option Addr) (n c:Nat) (hn:l.length=n) (hcap:n<=c) (width:Int) (w:World) (hl:Txs w w.heap.size A l) (hf:Few width l) :
  Calls Tryz.prog 50 #[.slice A n c,.int .i64 width] w (aa8_ (eL_ width l) w):=by
 have hw1:=hf.lo
 have hw2:=hf.hi
 have hl60:=hf.len
 obtain ⟨i0,hi0,hz0,hz1,hz2⟩:=info_parts uI_
 obtain ⟨iS,hiS,hzS,hzS1,hzS2⟩:=info_parts vK_
 subst hn
 have HL:=hd_ hl;have HF:=hd_ hf
 clear hl hf
 go_enter Tryz.func50,Tryz.ntmps50
 go_wp2_with (at_make;refine wpList_make_full _ rfl (.tmp 16) (.tmp 16) 73 rfl w.heap.size 3 i0 (.int .i64 0) 1 Tryz.underlying73 hi0 hz0 hz1 .i64 .i64 _ _ (l.length+1) rfl rfl rfl rfl (by rw [hz2];omega) (by simp only [maxLen];omega) (Nat.le_refl _) ?_;intro w2 hown hg;have HR2:=hd_ (qX_ hown);have HB2:Hid (Below w.heap.size w w2):=hd_ ((Below.refl _ _).grown hg (Nat.le_refl _) si_);have hs2:=HB2.out.size;clear hown hg)
 obtain ⟨gl,hgl⟩:∃ g,w.heap.size=g:=⟨_,rfl⟩
 have HB0:Hid (dB_ w2 gl gl (l.length+1) (List.replicate (l.length+1) (.int .i64 0))):=by rw [hgl] at HR2;exact HR2
 have HGL:=hd_ hgl
 have hdz:jT_ width l l.length (List.replicate (l.length+1) (.int .i64 0)):=by
  intro j h1 h2
  obtain rfl:j=l.length:=by omega
  rw [lB_];simp
 have HZ:=hd_ hdz
 rw [hgl]
 clear hgl HR2 hdz hi0 hz0 hz1 hz2
 generalize List.replicate (l.length+1) (Value.int .i64 0)=xs0 at *
 go_loopw [7] (fun i wr=>∃ (m:Nat) (xs:List Value),m<=l.length/\i=.int .i64 ((m:Int)-1)/\dB_ wr gl gl (l.length+1) xs/\jT_ width l m xs/\Below w.heap.size w wr) (fun i _=>(intOf i+1).toNat)
 case atStart=>exact ⟨l.length,_,Nat.le_refl _,rfl,HB0.out,HZ.out,HB2.out⟩
 case round =>
  obtain ⟨m,xs,hm,rfl,hx,hd,hB⟩:=hrel
  have HX:=hd_ hx;have HD:=hd_ hd;have HB:=hd_ hB
  have hsz:=hB.size
  clear hx hd hB HB0 HZ HB2
  cases m with
  | zero =>
   rw [show (((0:Nat):Int)-1)=-1 from rfl]
   go_wp2
   have ho0:wr.ownsRow w.heap.size 9 1 (.slice none 0 0) 0 []:=World.ownsRow_nil _ _ _ _
   have HO0:=hd_ ho0;clear ho0
   go_loopw [10,11,12] (fun v i _ w'=>∃ (k:Nat) (done:List ByteArray),k<=l.length/\i=.int .i64 k/\w'.ownsRow w.heap.size 9 1 v done.length (done.map .string)/\done.length<=k/\eL_ width l=done++gQ_ width l k/\(∀ t ∈ done,t.size<=1300)/\dB_ w' gl gl (l.length+1) xs/\Below w.heap.size w w') (fun _ i _ _=>l.length-(intOf i).toNat)
   case atStart=>exact ⟨0,[],by omega,rfl,HO0.out,by simp,rfl,by simp,HX.out,HB.out⟩
   case round =>
    obtain ⟨k,done,hk,rfl,ho,hdk,hfl,hsm,hx,hB⟩:=hrel
    have HO:=hd_ ho;have HFL:=hd_ hfl;have HSM:=hd_ hsm;have HXr:=hd_ hx;have HBr:=hd_ hB
    have hszr:=hB.size
    clear ho hfl hsm hx hB HO0 HX HB
    by_cases hlt:k<l.length
    ·obtain ⟨b,off,rfl,hb,_⟩:=HL.out.1.2 om_
     have hat:=HF.out.at_ hlt
     have hm1:=hat.2.2.1
     have hm2:=hat.2.2.2.1
     have hc1:=hat.2.2.2.2.1
     have hc2:=hat.2.2.2.2.2
     clear hat
     have hst:=HF.out.lines_step hlt
     have HLS:=hd_ hst;clear hst
     have hltm:=HXr.out.lt.2
     have hls:=HF.out.least (i:=k) om_
     have x0:wr.cell? ⟨gl,k,none⟩=some (.int .i64 (c7_ width l k)):=by rw [HXr.out.cell om_];exact HD.out k om_ om_
     generalize d5_ width l k=mk at *
     have HC1:=hd_ hc1;have HC2:=hd_ hc2;clear hc1 hc2
     generalize hLK:c7_ width l k=LS at *
     clear hLK
     go_wp2
     obtain ⟨wo,rfl⟩:∃ wo:World,wo=wr:=⟨_,rfl⟩
     go_loopw [12] (fun m w'=>∃ j:Nat,mk<=j/\k+j<=l.length/\m=.int .i64 j/\gA_ wo w') (fun m _=>(intOf m).toNat)
     case atStart=>exact ⟨l.length-k,by omega,by omega,by go_num,gA_.refl _⟩
     case round =>
      obtain ⟨j,hj1,hj2,rfl,hdr⟩:=hrel
      have HXw:=hd_ (hdr.irow HXr.out)
      have HBw:=hd_ (hdr.below HBr.out)
      have HOw:=hd_ (hdr.own HO.out)
      have HDR:=hd_ hdr
      have x0':wr.cell? ⟨gl,k,none⟩=some (.int .i64 LS):=by obtain ⟨_,rfl⟩:=hdr;exact x0
      have hltw:=HXw.out.lt.2
      clear hdr
      have x2:wr.cell? ⟨gl,k+j,none⟩=some (.int .i64 (c7_ width l (k+j))):=by rw [HXw.out.cell om_];exact HD.out (k+j) om_ om_
      have hct:=HF.out.cost (i:=k) (k:=k+j) om_ om_
      have hle:=HF.out.least (i:=k+j) om_
      have hsb:(l.drop k).take (k+j-k)=(l.drop k).take j:=by rw [show k+j-k=j by omega]
      have hdec:decide (k+j=l.length)=((k:Int)+(j:Int)==(l.length:Int)):=by rw [pH_,Bool.eq_iff_iff];simp;omega
      have hcs:c5_ width l k (k+j)=eO_ (cU_ ((l.drop k).take j)) width ((k:Int)+(j:Int)==(l.length:Int))+c7_ width l (k+j):=by rw [c5_,hsb,hdec]
      rw [hsb,hdec] at hct
      have hsl:=pY_ (l:=l) (i:=k) (k:=k+j) om_ om_
      rw [show k+j-k=j by omega] at hsl
      have HLN:Hid (∀ m,Calls Tryz.prog 96 #[.slice (some ⟨b,off+k,none⟩) j (c-k),.int .i64 width,.bool ((k:Int)+(j:Int)==(l.length:Int))] (wr.drewN m) fun e w'=>e=.returned (.int .i64 (eO_ (cU_ ((l.drop k).take j)) width ((k:Int)+(j:Int)==(l.length:Int))))/\w'=wr.drewN m):=hd_ (fun m=>by
       have htx:=mF_ (HL.out.past (w':=wr.drewN m) (below_drewN HBw.out m)) (i:=k) (k:=k+j) om_ om_
       rw [show k+j-k=j by omega] at htx
       exact (q1_ ((l.drop k).take j) (some ⟨b,off+k,none⟩) j (c-k) hsl width ((k:Int)+(j:Int)==(l.length:Int)) (wr.drewN m) htx om_ om_ (fun t ht=>HF.out.small t (List.mem_of_mem_drop (List.mem_of_mem_take ht))) hw1 hw2).mono fun _ _ ⟨h1,h2⟩=>⟨h1,h2.symm⟩)
      have HCS:=hd_ hcs
      have HSL:=hd_ hsl
      clear hcs hsb hdec hsl
      generalize eO_ (cU_ ((l.drop k).take j)) width ((k:Int)+(j:Int)==(l.length:Int))=bd at *
      generalize c7_ width l (k+j)=lK at *
      have hck:¬ c=k:=by omega
      have k1:IntKind.i64.wrap (bd+lK)=bd+lK:=IntWalk.i64_in _ om_
      have k2:IntKind.i64.wrap ((k:Int)+(j:Int))=(k:Int)+(j:Int):=IntWalk.i64_in _ om_
      have k3:((k:Int)+(j:Int)).toNat=k+j:=by omega
      have k4:(0:Int)<=(k:Int)+(j:Int):=by omega
      have k5:(k:Int)+(j:Int)<(l.length:Int)+1:=by omega
      have k6:(k:Int)+(j:Int)<=(l.length:Int):=by omega
      have k7:(k:Int)<=(k:Int)+(j:Int):=by omega
      have k8:(k:Int)<(l.length:Int)+1:=by omega
      by_cases hjm:j=mk
      ·subst hjm
       have z1:(bd+lK != LS)=false:=by
        have h:=HC1.out
        rw [HCS.out] at h
        simp [h]
       have hjs:=lX_ (l:=(l.drop k).take j) (fun t ht=>HF.out.small t (List.mem_of_mem_drop (List.mem_of_mem_take ht))) (by rw [HSL.out];omega) j
       rw [n4_ (by rw [HSL.out];exact Nat.le_refl _)] at hjs
       have HJ:Hid (∀ m,Calls Tryz.prog 97 #[.slice (some ⟨b,off+k,none⟩) j (c-k)] (wr.drewN m) fun e w3=>e=.returned (.string (eU_ ((l.drop k).take j)))/\wr.drewN m=w3):=hd_ (fun m=>by
        have htx:=mF_ (HL.out.past (w':=wr.drewN m) (below_drewN HBw.out m)) (i:=k) (k:=k+j) om_ om_
        rw [show k+j-k=j by omega] at htx
        exact rZ_ ((l.drop k).take j) (some ⟨b,off+k,none⟩) j (c-k) HSL.out (wr.drewN m) htx om_ (fun t ht=>HF.out.small t (List.mem_of_mem_drop (List.mem_of_mem_take ht))))
       generalize eU_ ((l.drop k).take j)=J at *
       exact dr39
      ·have z1:(bd+lK != LS)=true:=by
        have h:=HC2.out j om_ hj2
        rw [HCS.out] at h
        simpa using h
       exact dr39
    ·have hen:=oI_ (width:=width) (l:=l) (i:=k) om_
     have HE:=hd_ hen;clear hen
     obtain ⟨A3,c3,hv3⟩:=sA_ HO.out
     subst hv3
     go_wp2
     go_ret
     exact dr36
  | succ i =>
   rw [show (((i+1:Nat):Int)-1)=(i:Int) from by omega]
   obtain ⟨b,off,rfl,hb,_⟩:=HL.out.1.2 om_
   obtain ⟨u1,hu1⟩:=HX.out.some_ (j:=i) om_
   have hf1:=HX.out.free i
   have hlt1:=HX.out.lt.2
   go_wp2
   have HX1:=hd_ (HX.out.set i (.int .i64 (-1)))
   have HD1:=hd_ (HD.out.set (i:=i) (.int .i64 (-1)))
   have HS1:Hid ((xs.set i (.int .i64 (-1)))[i]?=some (.int .i64 (b0_ width l i 0).1)):=hd_ (by rw [List.getElem?_set_self (by rw [HX.out.1];omega)];rfl)
   have HB1:=hd_ (HB.out.setCell (p:=⟨gl,i,none⟩) (by rw [HGL.out];exact Nat.le_refl _) (.int .i64 (-1)))
   clear hu1 hf1 HX HD HB
   generalize wr.setCell ⟨gl,i,none⟩ (.int .i64 (-1))=wo at *
   generalize xs.set i (.int .i64 (-1))=xs1 at *
   go_loopw [8,9] (fun k _ wr=>∃ (q:Nat) (xs:List Value),i+q<=l.length/\k=.int .i64 ((q+1:Nat))/\dB_ wr gl gl (l.length+1) xs/\jT_ width l (i+1) xs/\xs[i]?=some (.int .i64 (b0_ width l i q).1)/\Below w.heap.size w wr) (fun k _ _=>l.length+1-(intOf k).toNat)
   case atStart=>exact ⟨0,xs1,by omega,rfl,HX1.out,HD1.out,HS1.out,HB1.out⟩
   case round =>
    obtain ⟨q,xs,hq,rfl,hx,hd,hsc,hB⟩:=hrel
    have HX:=hd_ hx;have HD:=hd_ hd;have HB:=hd_ hB;have HS:=hd_ hsc
    have hszr:=hB.size
    clear hx hd hB hsc HX1 HD1 HS1 HB1
    rw [show (((q+1:Nat)):Int)=(q:Int)+1 from by omega]
    by_cases hlt:i+q<l.length
    ·have x1:wr.cell? ⟨gl,i,none⟩=some (.int .i64 (b0_ width l i q).1):=by rw [HX.out.cell om_];exact HS.out
     have x2:wr.cell? ⟨gl,i+(q+1),none⟩=some (.int .i64 (c7_ width l (i+q+1))):=by rw [HX.out.cell om_];exact HD.out (i+q+1) om_ om_
     have f1:=HX.out.free i
     have hbd:=HF.out.scan_bd (i:=i) q om_
     have hct:=HF.out.cost (i:=i) (k:=i+q+1) om_ om_
     have hle:=HF.out.least (i:=i+q+1) om_
     have hst:=agK_ width l i q
     have hsb:(l.drop i).take (i+q+1-i)=(l.drop i).take (q+1):=by rw [show i+q+1-i=q+1 by omega]
     have hdec:decide (i+q+1=l.length)=((i:Int)+((q:Int)+1)==(l.length:Int)):=by rw [pH_,Bool.eq_iff_iff];simp;omega
     have hcs:c5_ width l i (i+q+1)=eO_ (cU_ ((l.drop i).take (q+1))) width ((i:Int)+((q:Int)+1)==(l.length:Int))+c7_ width l (i+q+1):=by rw [c5_,hsb,hdec]
     rw [hsb,hdec] at hct
     have hsl:=pY_ (l:=l) (i:=i) (k:=i+q+1) om_ om_
     rw [show i+q+1-i=q+1 by omega] at hsl
     have HLN:Hid (∀ nq,Calls Tryz.prog 96 #[.slice (some ⟨b,off+i,none⟩) (q+1) (c-i),.int .i64 width,.bool ((i:Int)+((q:Int)+1)==(l.length:Int))] (wr.drewN nq) fun e w'=>e=.returned (.int .i64 (eO_ (cU_ ((l.drop i).take (q+1))) width ((i:Int)+((q:Int)+1)==(l.length:Int))))/\w'=wr.drewN nq):=hd_ (fun nq=>by
      have htx:=mF_ (HL.out.past (w':=wr.drewN nq) (below_drewN HB.out nq)) (i:=i) (k:=i+q+1) om_ om_
      rw [show i+q+1-i=q+1 by omega] at htx
      exact (q1_ ((l.drop i).take (q+1)) (some ⟨b,off+i,none⟩) (q+1) (c-i) hsl width ((i:Int)+((q:Int)+1)==(l.length:Int)) (wr.drewN nq) htx om_ om_ (fun t ht=>HF.out.small t (List.mem_of_mem_drop (List.mem_of_mem_take ht))) hw1 hw2).mono fun _ _ ⟨h1,h2⟩=>⟨h1,h2.symm⟩)
     have HCS:=hd_ hcs;have HST:=hd_ hst
     clear hcs hst hsb hdec hsl
     generalize eO_ (cU_ ((l.drop i).take (q+1))) width ((i:Int)+((q:Int)+1)==(l.length:Int))=bd at *
     generalize c7_ width l (i+q+1)=lK at *
     generalize (b0_ width l i q).1=S1 at *
     have hci:¬ c=i:=by omega
     have k1:IntKind.i64.wrap (bd+lK)=bd+lK:=IntWalk.i64_in _ om_
     have k2:IntKind.i64.wrap ((i:Int)+((q:Int)+1))=(i:Int)+((q:Int)+1):=IntWalk.i64_in _ om_
     have k3:((i:Int)+((q:Int)+1)).toNat=i+(q+1):=by omega
     have k4:(0:Int)<=(i:Int)+((q:Int)+1):=by omega
     have k5:(i:Int)+((q:Int)+1)<(l.length:Int)+1:=by omega
     have k6:(i:Int)+((q:Int)+1)<=(l.length:Int):=by omega
     have k7:(i:Int)<=(i:Int)+((q:Int)+1):=by omega
     go_wp2
     go_quiet ((go_at_call 96;exact Calls.quiet_of_same (HLN.out _)))
     clear k1 k2 k3 k4 k5 k6 k7
     by_cases t1:S1<0
     ·have z1:decide (S1<0)=true:=decide_eq_true t1
      have hsy:=HST.out
      rw [if_pos (.inl t1),HCS.out] at hsy
      have HSY:=hd_ hsy;clear hsy t1
      exact t4_
     ·have z1:decide (S1<0)=false:=decide_eq_false t1
      by_cases t2:bd+lK<S1
      ·have z2:decide (bd+lK<S1)=true:=decide_eq_true t2
       have hsy:=HST.out
       rw [if_pos (.inr (by rw [HCS.out];exact t2)),HCS.out] at hsy
       have HSY:=hd_ hsy;clear hsy t1 t2
       exact t4_
      ·have z2:decide (bd+lK<S1)=false:=decide_eq_false t2
       have hsy:=HST.out
       rw [if_neg (by rw [HCS.out];omega)] at hsy
       have HSY:=hd_ hsy;clear hsy t1 t2
       go_wp2
       go_roundw
       case measure=>exact me_
       case rel=>exact ⟨q+1,xs,by omega,by go_num,HX.out.drewN _,HD.out,by rw [HSY.out];exact HS.out,below_drewN HB.out _⟩
    ·obtain rfl:q=l.length-i:=by omega
     have k1:¬ ((l.length-i:Nat):Int)+1<=(l.length:Int)-(i:Int):=by omega
     go_wp2
     go_roundw
     case measure=>simp [intOf]
     case rel=>exact ⟨i,xs,by omega,by go_num,HX.out,HD.out.more HF.out om_ HS.out,HB.out⟩
end
end Go.Proofs.YtddfdmopaeghnadGreatDoor
