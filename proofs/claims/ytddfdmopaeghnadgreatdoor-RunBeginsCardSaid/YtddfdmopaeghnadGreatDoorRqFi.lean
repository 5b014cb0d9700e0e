/- Walks: tree. With what it rests on. Conditions: as each theorem states them. -/
import Derived.Test.YtddfdmopaeghnadGreatDoorRqSy
import Derived.Below
import Derived.Lib.Join
import Derived.Test.YtddfdmopaeghnadGreatDoorRqTr
import Derived.BigQuiet
import Derived.Deep.QuietTactic
import Derived.IntWalk
import Derived.Test.YtddfdmopaeghnadGreatDoorRqMm
import Derived.Test.YtddfdmopaeghnadGreatDoorRqSh
import Derived.BigRegion
import Derived.Laws.ResultCell
set_option maxRecDepth 100000
set_option maxHeartbeats 16000000
namespace Go.Proofs.YtddfdmopaeghnadGreatDoor
open Go.RowKit
def NoteToC (t:ByteArray) (w:World) (e:Ending) (w':World):Prop:=∃ A c,e=.returned (.slice A (noteL t).length c)/\Txs w' w'.heap.size A (noteL t)/\Below w.heap.size w w'/\(noteL t).length<=c
theorem twords_cap (t:ByteArray) (w:World) (hs:t.size<4294967281) (hm:MaxL w) :
  Calls Tryz.prog 142 #[.string t] w (NoteToC t w):=by
 obtain ⟨_,m,hm⟩:=hm
 by_cases he:t.toList=[]
 ·have he2:t.toList.isEmpty=true:=by simp [he]
  have hn:noteL t=[]:=by rw [noteL,if_pos he]
  clear hm
  go_enter Tryz.func142,Tryz.ntmps142
  go_wp2
  go_ret
  exact ⟨none,0,by rw [hn];rfl,by rw [hn];exact ⟨Sl.nil_,by simp [maxLen],by simp⟩,Below.refl _ _,by rw [hn];exact Nat.le_refl _⟩
 ·have he2:t.toList.isEmpty=false:=by simpa using he
  have hn:noteL t=Lib.splitB spB 0 (Lib.countB t spB) t:=by rw [noteL,if_neg he]
  have hl:(noteL t).length=Lib.countB t spB+1:=by rw [hn];exact Lib.splitB_all spB (by decide) 0 _ t rfl
  have hle:Lib.countB t spB<=t.size:=Lib.countB_le spB (by decide) t.size t (Nat.le_refl _)
  have hz:∀ x ∈ noteL t,x.size<=t.size:=by rw [hn];exact splitB_size spB 0 _ t
  have HL:=hd_ hl;have HN:=hd_ hn;have HM:=hd_ hm;have HZ:=hd_ hz
  clear hl hn hm hz
  go_enter Tryz.func142,Tryz.ntmps142
  go_wp2_with (go_at_call 122;refine (Tryz.strings_Split t spB m _ hs HM.out (by decide)).mono ?_;rintro e w1 ⟨rfl,rfl⟩)
  go_ret
  refine ⟨some ⟨w.heap.size,0,none⟩,Lib.countB t spB+1,by rw [HL.out];rfl, ?_,bel_,by rw [HL.out];exact Nat.le_refl _⟩
  rw [← HN.out]
  exact sl_texts w (noteL t) (by rw [HL.out];simp only [maxLen];omega) fun x hx=>by have:=HZ.out x hx;simp only [maxLen];omega
def LnToC (t:ByteArray) (w:World) (e:Ending) (w':World):Prop:=∃ A c,e=.returned (.tuple #[.slice A (noteL t).length c,.nilIface])/\Txs w' w'.heap.size A (noteL t)/\Below w.heap.size w w'/\(noteL t).length<=c
theorem lnote_cap (l:List Nd) (A:Option Addr) (c:Nat) (w:World) (hl:Nds w w.heap.size A l) (hsh:Short l) (hm:MaxL w) (h:treeF l=0) {n:Int} {t:ByteArray} (hnd:l.getD 0 ⟨0,.empty,0⟩=Nd.mk 9 t n) :
  Calls Tryz.prog 85 #[.slice A l.length c] w (LnToC t w):=by
 have HK:=hd_ (lcheck_ok l A c w hl hsh hm h)
 have h0:=(Tr.of_check h).pos0
 obtain ⟨b,off,op,t',n',rfl,hb,ho,hnd',hts,d1,d2⟩:=hl.head0 h0
 rw [getD_at h0,hnd'] at hnd
 cases hnd
 have hsz:t.size<4294967281:=by have:=hsh _ (List.getElem_mem h0);rw [hnd'] at this;exact this
 have HMX:=hd_ hm
 have hlen:=hl.2.1
 unfold maxLen at hlen
 clear hl hsh hm h ho hnd'
 go_enter Tryz.func85,Tryz.ntmps85
 go_wp2_with (first
  | (go_at_call 45;refine HK.out.mono ?_;rintro e w1 ⟨rfl,hB1⟩;have e1:=(hB1.cell (p:=⟨b,off,none⟩) hb).trans d1;have e2:=(hB1.cell (p:=⟨b,off+1,none⟩) hb).trans d2)
  | (go_at_call 142;refine (twords_cap t _ hsz (HMX.out.past hB1)).mono ?_;rintro e w2 ⟨A2,c2,rfl,htx,hB2,hcap2⟩;have HT:=hd_ htx;clear htx))
 go_ret2
 exact ⟨A2,c2,rfl,HT.out,hB1.trans (hB2.mono hB1.size),hcap2⟩
end Go.Proofs.YtddfdmopaeghnadGreatDoor
namespace Go.Proofs.YtddfdmopaeghnadGreatDoor
def longW (l:List ByteArray):Int:=((l.map ByteArray.size).sum:Nat)+(l.length:Int)-1
def badW (n width:Int) (last:Bool):Int:=if width<n then 1000*(n-width) else if last then 0 else (width-n)*(width-n)
def fillJ (l:List ByteArray):ByteArray:=⟨(Lib.join (l.map (·.data.toList)) [32]).toArray⟩
def costK (width:Int) (l:List ByteArray) (t:List (Int × Nat)) (k:Nat):Int:=badW (longW (l.take k)) width (decide (k=l.length))+(t.getD (k-1) (0,0)).1
def scanK (width:Int) (l:List ByteArray) (t:List (Int × Nat)):Nat->Int × Nat
 | 0=>(-1,0)
 | k+1=>if (scanK width l t k).1<0∨costK width l t (k+1)<=(scanK width l t k).1 then (costK width l t (k+1),k+1) else scanK width l t k
def tbl (width:Int):List ByteArray->List (Int × Nat)
 | []=>[(0,0)]
 | w::r=>scanK width (w::r) (tbl width r) (r.length+1)::tbl width r
theorem tbl_drop (width:Int) (l:List ByteArray):∀ i,i<=l.length->(tbl width l).drop i=tbl width (l.drop i):=by
 induction l with
 | nil=>intro i hi;simp at hi;subst hi;rfl
 | cons w r ih =>
  intro i hi
  cases i with
  | zero=>rfl
  | succ i=>rw [tbl,List.drop_succ_cons,List.drop_succ_cons];exact ih i (by simpa using hi)
def leastAt (width:Int) (l:List ByteArray) (i:Nat):Int:=((tbl width l).getD i (0,0)).1
def manyAt (width:Int) (l:List ByteArray) (i:Nat):Nat:=((tbl width l).getD i (0,0)).2
def costAt (width:Int) (l:List ByteArray) (i k:Nat):Int:=badW (longW ((l.drop i).take (k-i))) width (decide (k=l.length))+leastAt width l k
def scanAt (width:Int) (l:List ByteArray) (i:Nat):Nat->Int × Nat
 | 0=>(-1,0)
 | m+1=>if (scanAt width l i m).1<0∨costAt width l i (i+m+1)<=(scanAt width l i m).1 then (costAt width l i (i+m+1),m+1) else scanAt width l i m
theorem tbl_get (width:Int) (l:List ByteArray) {i:Nat} (hi:i<=l.length) (j:Nat):(tbl width (l.drop i)).getD j (0,0)=(tbl width l).getD (i+j) (0,0):=by
 rw [← tbl_drop width l i hi,List.getD_eq_getElem?_getD,List.getD_eq_getElem?_getD,List.getElem?_drop]
theorem cost_at (width:Int) (l:List ByteArray) {i:Nat} (hi:i<l.length) {k:Nat} (h0:0<k):costK width (l.drop i) (tbl width (l.drop (i+1))) k=costAt width l i (i+k):=by
 unfold costK costAt leastAt
 rw [tbl_get width l (by omega),show i+1+(k-1)=i+k by omega,show i+k-i=k by omega,List.length_drop]
 have:decide (k=l.length-i)=decide (i+k=l.length):=by
  rw [Bool.eq_iff_iff];simp;omega
 rw [this]
theorem scan_at (width:Int) (l:List ByteArray) {i:Nat} (hi:i<l.length):∀ m,scanK width (l.drop i) (tbl width (l.drop (i+1))) m=scanAt width l i m:=by
 intro m
 induction m with
 | zero=>rfl
 | succ m ih=>rw [scanK,scanAt,ih,cost_at width l hi (by omega),Nat.add_assoc]
theorem tbl_at (width:Int) (l:List ByteArray) {i:Nat} (hi:i<l.length):(tbl width l).getD i (0,0)=scanAt width l i (l.length-i):=by
 have h:=tbl_get width l (Nat.le_of_lt hi) 0
 rw [Nat.add_zero] at h
 rw [← h,← scan_at width l hi]
 have hd:=List.drop_eq_getElem_cons hi
 rw [hd,tbl]
 simp only [List.getD_cons_zero,List.length_drop]
 congr 1
 omega
theorem least_end (width:Int) (l:List ByteArray):leastAt width l l.length=0:=by
 have h:=tbl_get width l (Nat.le_refl _) 0
 rw [Nat.add_zero] at h
 rw [leastAt,← h,List.drop_length];rfl
theorem badW_nn {n width:Int} {b:Bool} (_h:0<=width):0<=badW n width b:=by
 unfold badW
 split
 ·omega
 ·split
  ·omega
  ·exact Int.mul_nonneg (by omega) (by omega)
theorem badW_le {n width:Int} {b:Bool} (h0:0<=n) (hn:n<=1300) (_h:1<=width) (hw:width<=100):badW n width b<=1300000:=by
 unfold badW
 split
 ·omega
 ·split
  ·omega
  ·have h1:(width-n)*(width-n)<=100*100:=Int.mul_le_mul (by omega) (by omega) (by omega) (by omega)
   omega
theorem sum_le (l:List ByteArray) (h:∀ t ∈ l,t.size<=20):(l.map ByteArray.size).sum<=20*l.length:=by
 induction l with
 | nil=>simp
 | cons t r ih =>
  have h1:=h t (by simp)
  have h2:=ih (fun x hx=>h x (by simp [hx]))
  simp only [List.map_cons,List.sum_cons,List.length_cons];omega
theorem long_bd {l:List ByteArray} (h:∀ t ∈ l,t.size<=20) (h60:l.length<=60) (h0:0<l.length):0<=longW l/\longW l<=1300:=by
 have:=sum_le l h
 unfold longW;omega
structure Few (width:Int) (l:List ByteArray):Prop where
 len:l.length<=60
 small:∀ t ∈ l,t.size<=20
 lo:1<=width
 hi:width<=100
theorem Few.drop {width:Int} {l:List ByteArray} (h:Few width l) (i:Nat):Few width (l.drop i):=⟨by rw [List.length_drop];have:=h.len;omega,fun t ht=>h.small t (List.mem_of_mem_drop ht),h.lo,h.hi⟩
theorem Few.long {width:Int} {l:List ByteArray} (h:Few width l) {i k:Nat} (hik:i<k) (hk:k<=l.length):0<=longW ((l.drop i).take (k-i))/\longW ((l.drop i).take (k-i))<=1300:=by
 have hl:((l.drop i).take (k-i)).length=k-i:=by rw [List.length_take,List.length_drop];omega
 exact long_bd (fun t ht=>h.small t (List.mem_of_mem_drop (List.mem_of_mem_take ht))) (by rw [hl];have:=h.len;omega) (by rw [hl];omega)
theorem Few.scan {width:Int} {l:List ByteArray} (_h:Few width l) {i:Nat} (hc:∀ k,i<k->k<=l.length->0<=costAt width l i k):∀ m,i+m<=l.length ->
  (m=0->scanAt width l i m=(-1,0))/\(0<m->0<=(scanAt width l i m).1/\1<=(scanAt width l i m).2/\(scanAt width l i m).2<=m/\costAt width l i (i+(scanAt width l i m).2)=(scanAt width l i m).1 /\
   (∀ k,1<=k->k<=m->(scanAt width l i m).1<=costAt width l i (i+k))/\∀ k,(scanAt width l i m).2<k->k<=m->costAt width l i (i+k)≠(scanAt width l i m).1):=by
 intro m
 induction m with
 | zero=>intro _;exact ⟨fun _=>rfl,fun h=>by omega⟩
 | succ m ih =>
  intro hm
  refine ⟨fun h=>by omega,fun _=>?_⟩
  obtain ⟨h0,h1⟩:=ih (by omega)
  have hcm:=hc (i+m+1) (by omega) (by omega)
  rw [scanAt]
  by_cases hz:m=0
  ·subst hz
   rw [h0 rfl]
   rw [if_pos (.inl (by decide))]
   refine ⟨hcm,Nat.le_refl _,Nat.le_refl _,rfl,fun k g1 g2=>?_,fun k g1 g2=>by simp only at g1;omega⟩
   obtain rfl:k=1:=by omega
   exact Int.le_refl _
  ·obtain ⟨g1,g2,g3,g4,g5,g6⟩:=h1 (by omega)
   split
   ·rename_i hh
    have hle:costAt width l i (i+m+1)<=(scanAt width l i m).1:=by
     rcases hh with hh|hh
     ·omega
     ·exact hh
    refine ⟨hcm,by simp,by simp,rfl,fun k q1 q2=>?_,fun k q1 q2=>by simp only at q1;omega⟩
    rcases Nat.lt_or_ge k (m+1) with q|q
    ·exact Int.le_trans hle (g5 k q1 (by omega))
    ·obtain rfl:k=m+1:=by omega
     exact Int.le_refl _
   ·rename_i hh
    have hlt:(scanAt width l i m).1<costAt width l i (i+m+1):=by omega
    refine ⟨g1,g2,by omega,g4,fun k q1 q2=>?_,fun k q1 q2=>?_⟩
    ·rcases Nat.lt_or_ge k (m+1) with q|q
     ·exact g5 k q1 (by omega)
     ·obtain rfl:k=m+1:=by omega
      exact Int.le_of_lt hlt
    ·rcases Nat.lt_or_ge k (m+1) with q|q
     ·exact g6 k q1 (by omega)
     ·obtain rfl:k=m+1:=by omega
      rw [← Nat.add_assoc];omega
theorem rq22 {P:Prop} (h:P:=by
 obtain ⟨b1,b2⟩:=h.long h1 h2
 have c1:=badW_nn (n:=longW ((l.drop i).take (k-i))) (b:=decide (k=l.length)) (show 0<=width by have:=h.lo;omega)
 have c2:=badW_le (b:=decide (k=l.length)) b1 b2 h.lo h.hi
 unfold costAt
 omega):P:=h
theorem Few.least_bd {width:Int} {l:List ByteArray} (h:Few width l):∀ (d i:Nat),i+d=l.length->0<=leastAt width l i/\leastAt width l i<=1300000*d:=by
 intro d
 induction d using Nat.strongRecOn with
 | ind d ih =>
  intro i hi
  by_cases hd:d=0
  ·obtain rfl:i=l.length:=by omega
   rw [least_end];omega
  ·have hil:i<l.length:=by omega
   have hc:∀ k,i<k->k<=l.length->0<=costAt width l i k/\costAt width l i k<=1300000*d:=by
    intro k h1 h2
    obtain ⟨a1,a2⟩:=ih (l.length-k) (by omega) k (by omega)
    exact rq22
   obtain ⟨_,hs⟩:=h.scan (i:=i) (fun k h1 h2=>(hc k h1 h2).1) (l.length-i) (by omega)
   obtain ⟨g1,g2,g3,g4,_⟩:=hs (by omega)
   unfold leastAt
   rw [tbl_at width l hil]
   refine ⟨g1, ?_⟩
   rw [← g4]
   exact (hc _ (by omega) (by omega)).2
theorem Few.least {width:Int} {l:List ByteArray} (h:Few width l) {i:Nat} (hi:i<=l.length):0<=leastAt width l i/\leastAt width l i<=78000000:=by
 have:=h.least_bd (l.length-i) i (by omega)
 have:=h.len
 omega
theorem Few.cost {width:Int} {l:List ByteArray} (h:Few width l) {i k:Nat} (h1:i<k) (h2:k<=l.length) :
  0<=badW (longW ((l.drop i).take (k-i))) width (decide (k=l.length))/\badW (longW ((l.drop i).take (k-i))) width (decide (k=l.length))<=1300000/\0<=costAt width l i k/\costAt width l i k<=80000000:=by
 obtain ⟨a1,a2⟩:=h.least h2
 exact rq22
theorem Few.at_ {width:Int} {l:List ByteArray} (h:Few width l) {i:Nat} (hi:i<l.length) :
  leastAt width l i=(scanAt width l i (l.length-i)).1/\manyAt width l i=(scanAt width l i (l.length-i)).2/\1<=manyAt width l i/\i+manyAt width l i<=l.length /\
  costAt width l i (i+manyAt width l i)=leastAt width l i/\∀ k,manyAt width l i<k->i+k<=l.length->costAt width l i (i+k)≠leastAt width l i:=by
 obtain ⟨_,hs⟩:=h.scan (i:=i) (fun k h1 h2=>(h.cost h1 h2).2.2.1) (l.length-i) (by omega)
 obtain ⟨g1,g2,g3,g4,_,g6⟩:=hs (by omega)
 have e1:leastAt width l i=(scanAt width l i (l.length-i)).1:=by rw [leastAt,tbl_at width l hi]
 have e2:manyAt width l i=(scanAt width l i (l.length-i)).2:=by rw [manyAt,tbl_at width l hi]
 rw [e1,e2]
 exact ⟨rfl,rfl,g2,by omega,g4,fun k q1 q2=>g6 k q1 (by omega)⟩
def linesG (width:Int) (l:List ByteArray):Nat->Nat->List ByteArray
 | 0,_=>[]
 | f+1,i=>if l.length<=i then [] else fillJ ((l.drop i).take (manyAt width l i))::linesG width l f (i+manyAt width l i)
def linesAt (width:Int) (l:List ByteArray) (i:Nat):List ByteArray:=linesG width l (l.length-i) i
def fillW (width:Int) (l:List ByteArray):List ByteArray:=linesAt width l 0
theorem Few.linesG_fuel {width:Int} {l:List ByteArray} (h:Few width l):∀ (f g i:Nat),l.length<=i+f->l.length<=i+g->linesG width l f i=linesG width l g i:=by
 intro f
 induction f with
 | zero =>
  intro g i hf hg
  cases g with
  | zero=>rfl
  | succ g=>simp [linesG,show l.length<=i by omega]
 | succ f ih =>
  intro g i hf hg
  by_cases hi:l.length<=i
  ·cases g with
   | zero=>simp [linesG,hi]
   | succ g=>simp [linesG,hi]
  ·obtain ⟨_,_,h1,_⟩:=h.at_ (i:=i) (by omega)
   cases g with
   | zero=>omega
   | succ g=>rw [linesG,linesG,if_neg hi,if_neg hi,ih g (i+manyAt width l i) (by omega) (by omega)]
theorem Few.lines_step {width:Int} {l:List ByteArray} (h:Few width l) {i:Nat} (hi:i<l.length):linesAt width l i=fillJ ((l.drop i).take (manyAt width l i))::linesAt width l (i+manyAt width l i):=by
 obtain ⟨_,_,h1,h2,_⟩:=h.at_ hi
 unfold linesAt
 obtain ⟨d,hd⟩:∃ d,l.length-i=d+1:=⟨l.length-i-1,by omega⟩
 rw [hd,linesG,if_neg (show ¬ l.length<=i by omega),h.linesG_fuel d (l.length-(i+manyAt width l i)) (i+manyAt width l i) (by omega) (by omega)]
theorem lines_end {width:Int} {l:List ByteArray} {i:Nat} (hi:l.length<=i):linesAt width l i=[]:=by
 unfold linesAt
 rw [show l.length-i=0 by omega];rfl
theorem fillJ_size (l:List ByteArray) (h0:0<l.length):((fillJ l).size:Int)=longW l:=by
 have hl:∀ r:List ByteArray,Lib.lens (r.map (·.data.toList))=(r.map ByteArray.size).sum:=by
  intro r
  unfold Lib.lens
  congr 1
  rw [List.map_map]
  apply List.map_congr_left
  intro y _
  simp
 cases l with
 | nil=>simp at h0
 | cons x r =>
  have h1:=Lib.join_length x.data.toList (r.map (·.data.toList)) [32]
  have h2:(fillJ (x::r)).size=(Lib.join ((x::r).map (·.data.toList)) [32]).length:=by
   show (Lib.join ((x::r).map (·.data.toList)) [32]).toArray.size=_
   rw [List.size_toArray]
  have h3:=hl (x::r)
  rw [List.map_cons] at h3
  rw [h2,List.map_cons,h1,h3]
  simp only [longW,List.length_map,List.length_cons,List.length_nil]
  omega
end Go.Proofs.YtddfdmopaeghnadGreatDoor
namespace Go.Proofs.YtddfdmopaeghnadGreatDoor
def noteB:List ByteArray->ByteArray
 | []=>.empty
 | l::r=>⟨#[35,32]⟩++l++⟨#[10]⟩++noteB r
theorem noteB_app (a b:List ByteArray):noteB (a++b)=noteB a++noteB b:=by
 induction a with
 | nil=>simp [noteB]
 | cons u r ih=>simp [noteB,ih,ByteArray.append_assoc]
theorem noteB_step {l:List ByteArray} {k:Nat} (hk:k<l.length):noteB (l.take (k+1))=noteB (l.take k)++(⟨#[35,32]⟩++l[k]++⟨#[10]⟩):=by
 rw [List.take_succ_eq_append_getElem hk,noteB_app]
 simp [noteB]
theorem noteB_size {l:List ByteArray} (h:∀ s ∈ l,s.size<=1300):(noteB l).size<=1303*l.length:=by
 induction l with
 | nil=>simp [noteB]
 | cons u r ih =>
  have h1:=ih (fun v hv=>h v (by simp [hv]))
  have h2:=h u (by simp)
  simp only [noteB,ByteArray.size_append,List.length_cons]
  show 2+u.size+1+(noteB r).size<=_
  omega
theorem Few.lines_small {width:Int} {l:List ByteArray} (h:Few width l):∀ (f i:Nat),(linesG width l f i).length<=f/\∀ s ∈ linesG width l f i,s.size<=1300:=by
 intro f
 induction f with
 | zero=>intro i;exact ⟨Nat.le_refl _,fun s hs=>by cases hs⟩
 | succ f ih =>
  intro i
  rw [linesG]
  split
  ·exact ⟨Nat.zero_le _,fun s hs=>by cases hs⟩
  ·obtain ⟨h1,h2⟩:=ih (i+manyAt width l i)
   refine ⟨by simp only [List.length_cons];omega,fun s hs=>?_⟩
   rcases List.mem_cons.1 hs with rfl|hs
   ·have hl:((l.drop i).take (manyAt width l i)).length<=60:=by
     rw [List.length_take,List.length_drop];have:=h.len;omega
    have hsm:∀ t ∈ (l.drop i).take (manyAt width l i),t.size<=20:=fun t ht=>h.small t (List.mem_of_mem_drop (List.mem_of_mem_take ht))
    rcases Nat.eq_zero_or_pos ((l.drop i).take (manyAt width l i)).length with h0|h0
    ·rw [List.eq_nil_of_length_eq_zero h0];exact Nat.zero_le _
    ·have:=fillJ_size _ h0
     have:=long_bd hsm hl h0
     omega
   ·exact h2 s hs
theorem Few.fill_small {width:Int} {l:List ByteArray} (h:Few width l):(fillW width l).length<=60/\∀ s ∈ fillW width l,s.size<=1300:=by
 have h1:=h.lines_small (l.length-0) 0
 have h2:=h.len
 exact ⟨by unfold fillW linesAt;omega,h1.2⟩
end Go.Proofs.YtddfdmopaeghnadGreatDoor
namespace Go.Proofs.YtddfdmopaeghnadGreatDoor
open Go.RowKit
def longTo (l:List ByteArray) (k:Nat):Int:=(((l.take k).map ByteArray.size).sum:Nat)+(l.length:Int)-1
theorem longTo_zero (l:List ByteArray):longTo l 0=(l.length:Int)-1:=by simp [longTo]
theorem longTo_end {l:List ByteArray} {k:Nat} (h:l.length<=k):longTo l k=longW l:=by rw [longTo,List.take_of_length_le h];rfl
theorem longTo_succ {l:List ByteArray} {k:Nat} (hk:k<l.length) {t:ByteArray} (ht:l[k]=t):longTo l (k+1)=longTo l k+t.size:=by
 unfold longTo
 rw [List.take_succ_eq_append_getElem hk,ht,List.map_append,List.sum_append]
 simp;omega
theorem longTo_bd {l:List ByteArray} (h:∀ t ∈ l,t.size<=20) (h60:l.length<=60) (k:Nat):-1<=longTo l k/\longTo l k<=1300:=by
 have h1:=sum_le (l.take k) (fun t ht=>h t (List.mem_of_mem_take ht))
 have h2:(l.take k).length<=l.length:=by rw [List.length_take];omega
 unfold longTo;omega
theorem long_any (l:List ByteArray) (A:Option Addr) (n c:Nat) (hn:l.length=n) (w:World) (hl:Txs w w.heap.size A l) (h60:n<=60) (h20:∀ t ∈ l,t.size<=20) :
  Calls Tryz.prog 146 #[.slice A n c] w fun e w'=>e=.returned (.int .i64 (longW l))/\w=w':=by
 subst hn
 have HN:=hd_ hl;have HS:=hd_ h20;clear hl h20
 go_enter Tryz.func146,Tryz.ntmps146
 go_wp2
 go_loop [3,11] (fun m i=>∃ k:Nat,k<=l.length/\i=.int .i64 k/\m=.int .i64 (longTo l k)) (fun _ i=>l.length-(intOf i).toNat)
 case atStart=>exact ⟨0,Nat.zero_le _,rfl,by rw [longTo_zero]⟩
 case round =>
  obtain ⟨k,hk,rfl,rfl⟩:=hrel
  obtain ⟨b1,b2⟩:=longTo_bd HS.out h60 k
  by_cases hlt:k<l.length
  ·obtain ⟨b,off,t,rfl,hb,ht,hts,hc⟩:=HN.out.one (Below.refl _ _) hlt
   have h2:=HS.out _ (List.getElem_mem hlt)
   rw [ht] at h2
   have HST:=hd_ (longTo_succ hlt ht)
   clear ht
   generalize longTo l k=L at *
   go_wp2
   go_round
   case rel=>exact ⟨k+1,by omega,by go_num,by rw [HST.out]⟩
   case measure=>simp [intOf];omega
  ·have hz:=longTo_end (show l.length<=k by omega)
   have HZ:=hd_ hz;clear hz
   go_wp2
   go_ret
   exact ⟨by rw [HZ.out];rfl,rfl⟩
theorem mul_bd {a:Int} (h0:0<=a) (h1:a<=100):0<=a*a/\a*a<=10000:=by
 have h2:a*a<=100*100:=Int.mul_le_mul h1 h1 h0 (by decide)
 have h3:0<=a*a:=Int.mul_nonneg h0 h0
 omega
theorem bad_any (n width:Int) (last:Bool) (w:World) (hn0:0<=n) (hn:n<=1300) (h1:1<=width) (h2:width<=100) :
  Calls Tryz.prog 145 #[.int .i64 n,.int .i64 width,.bool last] w fun e w'=>e=.returned (.int .i64 (badW n width last))/\w=w':=by
 by_cases h:width<n
 ·rw [badW,if_pos h]
  go_enter Tryz.func145,Tryz.ntmps145
  go_wp2
  go_ret
  exact ⟨rfl,rfl⟩
 ·rw [badW,if_neg h]
  cases last with
  | true =>
   go_enter Tryz.func145,Tryz.ntmps145
   go_wp2
   go_ret
   exact ⟨rfl,rfl⟩
  | false =>
   obtain ⟨g1,g2⟩:=mul_bd (a:=width-n) (by omega) (by omega)
   go_enter Tryz.func145,Tryz.ntmps145
   go_wp2
   go_ret
   exact ⟨rfl,rfl⟩
def checkedF (l:List ByteArray) (width:Int):Int:=if wordsF l≠0 then wordsF l else if width<1∨100<width then 1 else 0
theorem rq20 {P:Prop} (h:P:=by
 go_enter Tryz.func144,Tryz.ntmps144
 go_wp2_with (go_at_call 141;refine HC.out.mono ?_;rintro e w1 ⟨rfl,rfl⟩)
 go_ret
 exact ⟨rfl,bel_⟩):P:=h
theorem checked_any (l:List ByteArray) (A:Option Addr) (n c:Nat) (hn:l.length=n) (width:Int) (w:World) (hl:Txs w w.heap.size A l) :
  Calls Tryz.prog 144 #[.slice A n c,.int .i64 width] w (Ret w (errV (checkedF l width))):=by
 have HC:=hd_ (words_any l A n c hn w hl)
 by_cases he:wordsF l=0
 ·rw [he,← errV_zero rfl] at HC
  rw [checkedF,if_neg (by simp [he])]
  clear he hl hn
  by_cases h1:width<1
  ·have k1:decide (width<1)=true:=by simpa using h1
   rw [if_pos (.inl h1),← errV_pos (by decide)]
   exact rq20
  ·have k1:decide (width<1)=false:=by simpa using h1
   by_cases h2:100<width
   ·have k2:decide (100<width)=true:=by simpa using h2
    rw [if_pos (.inr h2),← errV_pos (by decide)]
    exact rq20
   ·have k2:decide (100<width)=false:=by simpa using h2
    rw [if_neg (by omega),← errV_zero rfl]
    exact rq20
 ·rw [← errV_pos he] at HC
  rw [checkedF,if_pos he,← errV_pos he]
  generalize wordsF l=q at *
  clear he hl hn
  exact rq20
theorem Txs.cut {w:World} {b off B:Nat} {l:List ByteArray} (h:Txs w B (some ⟨b,off,none⟩) l) (k:Nat):Txs w B (some ⟨b,off+k,none⟩) (l.drop k):=by
 refine ⟨⟨by simp,fun hn=>?_⟩,by have:=h.2.1;rw [List.length_drop];omega,fun t ht=>h.2.2 t (List.mem_of_mem_drop ht)⟩
 rw [List.length_drop] at hn
 obtain ⟨b',off',e,hb,hc⟩:=h.1.2 (by omega)
 cases e
 refine ⟨b,off+k,rfl,hb,fun j u hu=>?_⟩
 rw [Nat.add_assoc]
 exact hc (k+j) u (by rw [List.map_drop,List.getElem?_drop] at hu;exact hu)
theorem Txs.head {w:World} {A:Option Addr} {B:Nat} {l:List ByteArray} (h:Txs w B A l) {k:Nat} (hk:k<=l.length):Txs w B A (l.take k):=by
 have hl:(l.take k).length=k:=by rw [List.length_take];omega
 refine ⟨?_,by have:=h.2.1;omega,fun t ht=>h.2.2 t (List.mem_of_mem_take ht)⟩
 have:=h.1.head hk
 rw [Nat.mul_one,← List.map_take] at this
 rw [hl]
 exact this
theorem beq_dec (a b:Int):(a==b)=decide (a=b):=by rw [Bool.eq_iff_iff];simp
def joinTo (l:List ByteArray) (k:Nat):ByteArray:=fillJ (l.take k)
theorem joinTo_end {l:List ByteArray} {k:Nat} (h:l.length<=k):joinTo l k=fillJ l:=by rw [joinTo,List.take_of_length_le h]
theorem joinTo_size {l:List ByteArray} (h20:∀ t ∈ l,t.size<=20) (h60:l.length<=60) (k:Nat):(joinTo l k).size<=1300:=by
 rcases Nat.eq_zero_or_pos (l.take k).length with h0|h0
 ·have:l.take k=[]:=List.eq_nil_of_length_eq_zero h0
  unfold joinTo
  rw [this];decide
 ·have h1:=fillJ_size (l.take k) h0
  have h2:=long_bd (l:=l.take k) (fun t ht=>h20 t (List.mem_of_mem_take ht)) (by rw [List.length_take];omega) h0
  unfold joinTo
  omega
def NumsI (w:World) (B:Nat) (A:Option Addr) (l:List Int):Prop:=Sl w B 1 A l.length (l.map (.int .i64))/\l.length<=maxLen
theorem NumsI.one {w wr:World} {B:Nat} {A:Option Addr} {l:List Int} (h:NumsI w B A l) (hB:Below B w wr) {k:Nat} (hk:k<l.length) :
  ∃ b off v,A=some ⟨b,off,none⟩/\b<B/\l[k]=v/\wr.cell? ⟨b,off+k,none⟩=some (.int .i64 v):=by
 obtain ⟨b,off,u,h1,h2,h3,h4⟩:=h.1.one hk
 have hu:u=.int .i64 l[k]:=by simp [hk] at h3;exact h3.symm
 subst hu
 exact ⟨b,off,l[k],h1,h2,rfl,(hB.cell (p:=⟨b,off+k,none⟩) h2).trans h4⟩
theorem NumsI.past {w w':World} {A:Option Addr} {l:List Int} (h:NumsI w w.heap.size A l) (hb:Below w.heap.size w w'):NumsI w' w'.heap.size A l:=⟨h.1.past hb,h.2⟩
theorem NumsI.tail {w:World} {b off B c:Nat} {v:Int} {l:List Int} (h:NumsI w B (some ⟨b,off,none⟩) (v::l)) (hc:(v::l).length<=c):NumsI w B (if c=1 then some ⟨b,off,none⟩ else some ⟨b,off+1,none⟩) l:=by
 refine ⟨⟨by simp,fun hn=>?_⟩,by have:=h.2;simp only [List.length_cons] at this;omega⟩
 simp only [List.length_cons] at hc
 obtain ⟨b',off',e,hb,hcell⟩:=h.1.2 (by simp)
 cases e
 rw [if_neg (by omega)]
 refine ⟨b,off+1,rfl,hb,fun j u hu=>?_⟩
 rw [Nat.add_assoc]
 exact hcell (1+j) u (by rw [List.map_cons,Nat.add_comm,List.getElem?_cons_succ];exact hu)
theorem NumsI.own {w:World} {base n:Nat} {A:Option Addr} {c:Nat} {l:List Int} (h:w.ownsRow base 3 1 (.slice A n c) n (l.map (.int .i64))) (hn:n=l.length) (hm:l.length<=maxLen):NumsI w w.heap.size A l:=by
 subst hn
 exact ⟨.of_own h,hm⟩
theorem own_cap {w:World} {base:Nat} {e:TypeId} {size n:Nat} {A:Option Addr} {c:Nat} {xs:List Value} (h:w.ownsRow base e size (.slice A n c) n xs):n<=c:=by
 rcases h.2 with ⟨h1,h2⟩|⟨g,cap,cur,h1,_,_,h2,_⟩
 ·injection h1 with _ h3 _
  omega
 ·injection h1 with _ _ h3
  omega
theorem int_infoF:(Tryz.prog.info? 3).map (fun i=>(i.zero,i.size,i.bytes))=some (some (.int .i64 0),1,8):=by kernel_rfl
theorem str_infoF:(Tryz.prog.info? 9).map (fun i=>(i.zero,i.size,i.bytes))=some (some (.string .empty),1,16):=by kernel_rfl
theorem own_sliceF {w:World} {base:Nat} {e:TypeId} {size n:Nat} {v:Value} {xs:List Value} (h:w.ownsRow base e size v n xs):∃ A c,v=.slice A n c:=by
 rcases h.2 with ⟨rfl,rfl⟩|⟨g,cap,cur,rfl,_⟩
 ·exact ⟨none,0,rfl⟩
 ·exact ⟨_,cap,rfl⟩
theorem rows_apartF {w:World} {e f:TypeId} {u v:Value} {m n:Nat} {xs ys:List Value} {B C:Nat} {sz sz':Nat} (h1:w.ownsRow B e sz u m xs) (h2:w.ownsRow C f sz' v n ys) (hef:e≠f):u.ownBlock=none∨u.ownBlock≠v.ownBlock:=by
 rcases h1.2 with ⟨rfl,_⟩|⟨g,cap,cur,rfl,_,hg,_⟩
 ·exact .inl rfl
 ·refine .inr fun he=>?_
  rcases h2.2 with ⟨rfl,_⟩|⟨g',cap',cur',rfl,_,hg',_⟩
  ·simp [Value.ownBlock] at he
  ·simp only [Value.ownBlock,Option.some.injEq] at he
   subst he
   rw [hg] at hg'
   simp only [Option.some.injEq,Obj.cells.injEq] at hg'
   exact hef hg'.2.1
def IRow (w:World) (B g n:Nat) (xs:List Value):Prop:=w.ownsRow B 3 1 (.slice (some ⟨g,0,none⟩) n n) n xs
theorem IRow.set {w:World} {B g n:Nat} {xs:List Value} (h:IRow w B g n xs) (j:Nat) (v:Value):IRow (w.setCell ⟨g,j,none⟩ v) B g n (xs.set j v):=(World.ownsRow.stored h j v).1
theorem IRow.other {w:World} {B g n g':Nat} {xs:List Value} (h:IRow w B g n xs) (hne:g≠g') (j:Nat) (v:Value):IRow (w.setCell ⟨g',j,none⟩ v) B g n xs :=
 World.ownsRow.kept (row:=some g') h ⟨rfl,rfl,rfl,by simp [World.setCell],fun k _ hk=>Below.heap_setCell _ _ _ _ (fun e=>hk (by simp [e]))⟩ (.inr (by simp [Value.ownBlock];exact hne))
theorem IRow.drewN {w:World} {B g n:Nat} {xs:List Value} (h:IRow w B g n xs) (m:Nat):IRow (w.drewN m) B g n xs:=h
theorem IRow.cell {w:World} {B g n:Nat} {xs:List Value} (h:IRow w B g n xs) {j:Nat} (hj:j<n):w.cell? ⟨g,j,none⟩=xs[j]?:=World.ownsRow.cellAt h j (by omega)
theorem IRow.some_ {w:World} {B g n:Nat} {xs:List Value} (h:IRow w B g n xs) {j:Nat} (hj:j<n):∃ u,w.cell? ⟨g,j,none⟩=some u:=by
 have hl:=h.1
 rw [h.cell hj]
 exact ⟨_,List.getElem?_eq_getElem (by omega)⟩
theorem IRow.free {w:World} {B g n:Nat} {xs:List Value} (h:IRow w B g n xs) (j:Nat):w.frozen? ⟨g,j,none⟩=false:=World.ownsRow.frozenAt h j
theorem IRow.lt {w:World} {B g n:Nat} {xs:List Value} (h:IRow w B g n xs):B<=g/\g<w.heap.size:=World.ownsRow.lt h g rfl
def DoneF (width:Int) (l:List ByteArray) (m:Nat) (xs ys:List Value):Prop :=
 (∀ j,m<=j->j<=l.length->xs[j]?=some (.int .i64 (leastAt width l j)))/\∀ j,m<=j->j<l.length->ys[j]?=some (.int .i64 (manyAt width l j:Nat))
def ScanF (width:Int) (l:List ByteArray) (i q:Nat) (xs ys:List Value):Prop :=
 xs[i]?=some (.int .i64 (scanAt width l i q).1)/\(0<q->ys[i]?=some (.int .i64 ((scanAt width l i q).2:Nat)))
theorem DoneF.set {width:Int} {l:List ByteArray} {i:Nat} {xs ys:List Value} (h:DoneF width l (i+1) xs ys) (v u:Value):DoneF width l (i+1) (xs.set i v) (ys.set i u) :=
 ⟨fun j h1 h2=>by rw [List.getElem?_set_ne (by omega)];exact h.1 j h1 h2,fun j h1 h2=>by rw [List.getElem?_set_ne (by omega)];exact h.2 j h1 h2⟩
theorem DoneF.set1 {width:Int} {l:List ByteArray} {i:Nat} {xs ys:List Value} (h:DoneF width l (i+1) xs ys) (v:Value):DoneF width l (i+1) (xs.set i v) ys :=
 ⟨fun j h1 h2=>by rw [List.getElem?_set_ne (by omega)];exact h.1 j h1 h2,h.2⟩
theorem DoneF.more {width:Int} {l:List ByteArray} {i:Nat} {xs ys:List Value} (hf:Few width l) (hi:i<l.length) (h:DoneF width l (i+1) xs ys) (hs:ScanF width l i (l.length-i) xs ys):DoneF width l i xs ys:=by
 obtain ⟨e1,e2,_⟩:=hf.at_ hi
 refine ⟨fun j h1 h2=>?_,fun j h1 h2=>?_⟩
 ·rcases Nat.eq_or_lt_of_le h1 with rfl|h3
  ·rw [hs.1,e1]
  ·exact h.1 j h3 h2
 ·rcases Nat.eq_or_lt_of_le h1 with rfl|h3
  ·rw [hs.2 (by omega),e2]
  ·exact h.2 j h3 h2
theorem scan_yes {width:Int} {l:List ByteArray} {i K:Nat} (hK:i<K) (h:(scanAt width l i (K-i-1)).1<0∨costAt width l i K<=(scanAt width l i (K-i-1)).1):scanAt width l i (K-i)=(costAt width l i K,K-i):=by
 obtain ⟨q,rfl⟩:∃ q,K=i+q+1:=⟨K-i-1,by omega⟩
 rw [show i+q+1-i-1=q by omega] at h
 rw [show i+q+1-i=q+1 by omega,scanAt,if_pos h]
theorem scan_no {width:Int} {l:List ByteArray} {i K:Nat} (hK:i<K) (h:¬ ((scanAt width l i (K-i-1)).1<0∨costAt width l i K<=(scanAt width l i (K-i-1)).1)):scanAt width l i (K-i)=scanAt width l i (K-i-1):=by
 obtain ⟨q,rfl⟩:∃ q,K=i+q+1:=⟨K-i-1,by omega⟩
 rw [show i+q+1-i-1=q by omega] at h ⊢
 rw [show i+q+1-i=q+1 by omega,scanAt,if_neg h]
theorem Few.scan_bd {width:Int} {l:List ByteArray} (h:Few width l) {i:Nat}:∀ q,i+q<=l.length->-1<=(scanAt width l i q).1/\(scanAt width l i q).1<=80000000/\(scanAt width l i q).2<=q/\((scanAt width l i q).1<0->q=0):=by
 intro q hq
 obtain ⟨h0,h1⟩:=h.scan (i:=i) (fun k a b=>(h.cost a b).2.2.1) q hq
 rcases Nat.eq_zero_or_pos q with hz|hz
 ·rw [h0 hz];exact ⟨by decide,by decide,by simp,fun _=>hz⟩
 ·obtain ⟨g1,g2,g3,g4,_⟩:=h1 hz
  rw [← g4]
  have:=(h.cost (i:=i) (k:=i+(scanAt width l i q).2) (by omega) (by omega)).2.2.2
  exact ⟨by rw [g4];omega,this,g3,fun hh=>by rw [g4] at hh;omega⟩
theorem sub_txs {w:World} {B b off:Nat} {l:List ByteArray} (h:Txs w B (some ⟨b,off,none⟩) l) {i k:Nat} (hik:i<=k) (hk:k<=l.length):Txs w B (some ⟨b,off+i,none⟩) ((l.drop i).take (k-i)) :=
 (h.cut i).head (by rw [List.length_drop];omega)
theorem sub_len {l:List ByteArray} {i k:Nat} (_hik:i<=k) (hk:k<=l.length):((l.drop i).take (k-i)).length=k-i:=by rw [List.length_take,List.length_drop];omega
theorem ScanF.yes {width:Int} {l:List ByteArray} {i K:Nat} {xs ys:List Value} {q v:Int} (hx:xs.length=(l.length+1)*1) (hy:ys.length=l.length*1) (hi:i<l.length) (h:scanAt width l i (K-i)=(q,K-i)) (hv:v=((K-i:Nat):Int)) :
  ScanF width l i (K+1-i-1) (xs.set i (.int .i64 q)) (ys.set i (.int .i64 v)):=by
 subst hv
 rw [show K+1-i-1=K-i by omega]
 refine ⟨?_,fun _=>?_⟩
 ·rw [List.getElem?_set_self (by omega),h]
 ·rw [List.getElem?_set_self (by omega),h]
theorem ScanF.no {width:Int} {l:List ByteArray} {i K:Nat} {xs ys:List Value} (h:scanAt width l i (K-i)=scanAt width l i (K-i-1)) (hs:ScanF width l i (K-i-1) xs ys) (hq:0<K-i-1):ScanF width l i (K+1-i-1) xs ys:=by
 rw [show K+1-i-1=K-i by omega]
 exact ⟨by rw [h];exact hs.1,fun _=>by rw [h];exact hs.2 hq⟩
def FillTo (xs:List ByteArray) (w:World) (e:Ending) (w':World):Prop:=∃ A c,e=.returned (.tuple #[.slice A xs.length c,.nilIface])/\Txs w' w'.heap.size A xs/\Below w.heap.size w w'
theorem made_row {w:World} {B g n:Nat} (h:w.ownsRow B 3 1 (.slice (some ⟨g,0,none⟩) n n) n (madeCells (Value.int .i64 0).cells (n*1)).toList):IRow w B g n (List.replicate n (.int .i64 0)):=by
 have e:(madeCells (Value.int .i64 0).cells (n*1)).toList=List.replicate n (.int .i64 0):=by
  rw [Nat.mul_one];exact toList_madeCells_one _ _
 rw [e] at h
 exact h
theorem rq21 {P:Prop} (h:P:=by
 go_wp2
 go_roundw
 case measure=>simp [intOf];omega
 case rel=>exact ⟨K+1,_,_,by omega,by omega,by go_num,((HX.out.drewN _).set i _).other HNE.out i _,((HY.out.drewN _).other (fun e=>HNE.out e.symm) i _).set i _,HD.out.set _ _,ScanF.yes HX.out.1 HY.out.1 (by omega) HSY.out (by omega),((below_drewN HB.out _).setCell (p:=⟨gl,i,none⟩) HX.out.lt.1 _).setCell (p:=⟨gm,i,none⟩) HY.out.lt.1 _⟩):P:=h
theorem fill_ok (l:List ByteArray) (A:Option Addr) (n c:Nat) (hn:l.length=n) (hcap:n<=c) (width:Int) (w:World) (hl:Txs w w.heap.size A l) (hf:Few width l) (he:checkedF l width=0) :
  Calls Tryz.prog 86 #[.slice A n c,.int .i64 width] w (FillTo (fillW width l) w):=by
 have HC:=hd_ (checked_any l A n c hn width w hl)
 rw [he,← errV_zero rfl] at HC
 have hw1:=hf.lo
 have hw2:=hf.hi
 have hl60:=hf.len
 obtain ⟨i0,hi0,hz0,hz1,hz2⟩:=info_parts int_infoF
 obtain ⟨iS,hiS,hzS,hzS1,hzS2⟩:=info_parts str_infoF
 subst hn
 have HL:=hd_ hl;have HF:=hd_ hf
 clear hl hf he
 go_enter Tryz.func86,Tryz.ntmps86
 go_wp2_with (first
  | (go_at_call 144;refine HC.out.mono ?_;rintro e w1 ⟨rfl,hB1⟩;have hs1:=hB1.size)
  | (at_make;(fail_if_success have hz:=hR2);refine wpList_make_full _ rfl (.tmp 24) (.tmp 24) 73 rfl w.heap.size 3 i0 (.int .i64 0) 1 Tryz.underlying73 hi0 hz0 hz1 .i64 .i64 _ _ (l.length+1) rfl rfl rfl rfl (by rw [hz2];omega) (by simp only [maxLen];omega) hs1 ?_;intro w2 hown hg;have hR2:True:=trivial;have HR2:=hd_ (made_row hown);have HB2:Hid (Below w.heap.size w w2):=hd_ (hB1.grown hg hs1 (by simp));have hs2:=HB2.out.size;clear hown hg)
  | (at_make;refine wpList_make_full _ rfl (.tmp 26) (.tmp 26) 73 rfl w.heap.size 3 i0 (.int .i64 0) 1 Tryz.underlying73 hi0 hz0 hz1 .i64 .i64 _ _ l.length rfl rfl rfl rfl (by rw [hz2];omega) (by simp only [maxLen];omega) hs2 ?_;intro w3 hown hg;have HR3:=hd_ (made_row hown);have HB3:Hid (Below w.heap.size w w3):=hd_ (HB2.out.grown hg hs2 (by simp));have HR2':Hid (IRow w3 w.heap.size w1.heap.size (l.length+1) (List.replicate (l.length+1) (.int .i64 0))):=hd_ (World.ownsRow.kept HR2.out hg (.inr (by simp [Value.ownBlock])));clear hown hg))
 obtain ⟨gl,hgl⟩:∃ g,w1.heap.size=g:=⟨_,rfl⟩
 obtain ⟨gm,hgm⟩:∃ g,w2.heap.size=g:=⟨_,rfl⟩
 have hgt:=HR2.out.lt.2
 rw [hgl] at HR2' hgt ⊢
 rw [hgm] at HR3 hgt ⊢
 have hne:gl≠gm:=by omega
 have hne2:¬ gl=gm:=hne
 have hne3:¬ gm=gl:=fun e=>hne e.symm
 have HNE:=hd_ hne
 have hdz:DoneF width l l.length (List.replicate (l.length+1) (.int .i64 0)) (List.replicate l.length (.int .i64 0)):=by
  refine ⟨fun j h1 h2=>?_,fun j h1 h2=>by omega⟩
  obtain rfl:j=l.length:=by omega
  rw [least_end];simp
 have HZ:=hd_ hdz
 clear hgl hgm hgt hne HR2 HB2 hs2 hdz HC hi0 hz0 hz1 hz2
 generalize List.replicate (l.length+1) (Value.int .i64 0)=xs0 at *
 generalize List.replicate l.length (Value.int .i64 0)=ys0 at *
 go_loopw [10] (fun i wr=>∃ (m:Nat) (xs ys:List Value),m<=l.length/\i=.int .i64 ((m:Int)-1)/\IRow wr w.heap.size gl (l.length+1) xs/\IRow wr w.heap.size gm l.length ys/\DoneF width l m xs ys/\Below w.heap.size w wr) (fun i _=>(intOf i+1).toNat)
 case atStart=>exact ⟨l.length,_,_,Nat.le_refl _,rfl,HR2'.out,HR3.out,HZ.out,HB3.out⟩
 case round =>
  obtain ⟨m,xs,ys,hm,rfl,hx,hy,hd,hB⟩:=hrel
  have HX:=hd_ hx;have HY:=hd_ hy;have HD:=hd_ hd;have HB:=hd_ hB
  have hsz:=hB.size
  clear hx hy hd hB HR2' HR3 HZ HB3
  cases m with
  | zero =>
   rw [show (((0:Nat):Int)-1)=-1 from rfl]
   go_wp2
   have ho0:wr.ownsRow w.heap.size 9 1 (.slice none 0 0) 0 []:=World.ownsRow_nil _ _ _ _
   have HO0:=hd_ ho0;clear ho0
   go_loopw [13,14] (fun v i w'=>∃ (k:Nat) (done:List ByteArray),k<=l.length/\i=.int .i64 k/\w'.ownsRow w.heap.size 9 1 v done.length (done.map .string)/\done.length<=k/\fillW width l=done++linesAt width l k/\(∀ t ∈ done,t.size<=1300)/\IRow w' w.heap.size gm l.length ys/\Below w.heap.size w w') (fun _ i _=>l.length-(intOf i).toNat)
   case atStart=>exact ⟨0,[],by omega,rfl,HO0.out,by simp,rfl,by simp,HY.out,HB.out⟩
   case round =>
    obtain ⟨k,done,hk,rfl,ho,hdk,hfl,hsm,hy,hB⟩:=hrel
    have HO:=hd_ ho;have HFL:=hd_ hfl;have HSM:=hd_ hsm;have HYr:=hd_ hy;have HBr:=hd_ hB
    have hszr:=hB.size
    clear ho hfl hsm hy hB HO0 HX HB
    by_cases hlt:k<l.length
    ·obtain ⟨b,off,rfl,hb,_⟩:=HL.out.1.2 (by omega)
     have hat:=HF.out.at_ hlt
     have hm1:=hat.2.2.1
     have hm2:=hat.2.2.2.1
     clear hat
     have hys:=HD.out.2 k (by omega) hlt
     have x1:wr.cell? ⟨gm,k,none⟩=some (.int .i64 (manyAt width l k:Nat)):=by rw [HYr.out.cell hlt];exact hys
     have hst:=HF.out.lines_step hlt
     have HLS:=hd_ hst;clear hst
     have hltm:=HYr.out.lt.2
     generalize manyAt width l k=mk at *
     have HYS:=hd_ hys;clear hys
     have hsub:=sub_len (l:=l) (i:=k) (k:=k+mk) (by omega) hm2
     rw [show k+mk-k=mk by omega] at hsub
     have hjs:=joinTo_size (l:=(l.drop k).take mk) (fun t ht=>HF.out.small t (List.mem_of_mem_drop (List.mem_of_mem_take ht))) (by omega) mk
     rw [joinTo_end (by omega)] at hjs
     have HJ:Hid (∀ w2,Below w.heap.size w w2->Calls Tryz.prog 135 #[.slice (some ⟨b,off+k,none⟩) mk (c-k),.string ⟨#[32]⟩] w2 fun e w3=>e=.returned (.string (fillJ ((l.drop k).take mk)))/\Below w2.heap.size w2 w3):=hd_ (fun w2 hb2=>by
      have htx:=sub_txs (HL.out.past hb2) (i:=k) (k:=k+mk) (by omega) hm2
      rw [show k+mk-k=mk by omega] at htx
      have h:=Tryz.strings_Join b (off+k) (c-k) ((l.drop k).take mk) ⟨#[32]⟩ w2 (fun j x hj=>by
       obtain ⟨b',off',e,_,hc⟩:=htx.1.2 (by omega)
       cases e
       exact hc j _ (by rw [List.getElem?_map,hj];rfl)) (Nat.lt_of_lt_of_le hb hb2.size) (by omega) (by omega) (by
        have h2:(Lib.join (((l.drop k).take mk).map (·.data.toList)) [32]).length=(fillJ ((l.drop k).take mk)).size:=by
         show _=(Lib.join (((l.drop k).take mk).map (·.data.toList)) [32]).toArray.size
         rw [List.size_toArray]
        show (Lib.join (((l.drop k).take mk).map (·.data.toList)) [32]).length<=_
        omega)
      rw [hsub] at h
      exact h)
     have HSUB:=hd_ hsub;clear hsub
     generalize fillJ ((l.drop k).take mk)=J at *
     have hck:¬ c=k:=by omega
     have k2:(k:Int)<=(k:Int)+(mk:Int):=by omega
     have k3:(k:Int)+(mk:Int)<=(l.length:Int):=by omega
     have k5:(k:Int)<(l.length:Int):=by omega
     go_wp2_with (first
      | (go_at_call 135;refine (HJ.out _ HBr.out).mono ?_;rintro e w4 ⟨rfl,hB4⟩;have hsz4:=hB4.size;have HO4:=hd_ (own_below HO.out hB4);have HY4:Hid (IRow w4 w.heap.size gm l.length ys):=hd_ (own_below HYr.out hB4);have HB4:=hd_ (HBr.out.trans (hB4.mono hszr));clear hB4)
      | (at_builtin;refine wpList_app _ rfl (.tmp 91) (.tmp 102) _ rfl w.heap.size 9 iS (.string .empty) 1 16 Tryz.underlying72 hiS hzS hzS1 hzS2 rfl (by decide) _ done.length _ rfl (HO4.out.alloc _) _ _ 1 1 [.string J] rfl (Sl.lit (sz:=1) _ #[.string J] 9 1 rfl) (by simp [Value.oneCell']) (by simp only [maxLen];omega) (by omega) (by simp;omega) ?_;intro v5 w5 hown5 hgr5 _;have HB5:Hid (Below w.heap.size w w5):=hd_ (below_app (HB4.out.alloc HB4.out.size _) (HO4.out.alloc _) hgr5 (HB4.out.alloc HB4.out.size _).size (Nat.le_refl _));have HY5:Hid (IRow w5 w.heap.size gm l.length ys):=hd_ ((World.ownsRow.alloc HY4.out _).kept hgr5 (rows_apartF HY4.out HO4.out (by decide)));have HO5:=hd_ hown5;have x5:w5.cell? ⟨gm,k,none⟩=some (.int .i64 (mk:Nat)):=(by rw [HY5.out.cell hlt];exact HYS.out);clear hown5 hgr5))
     go_wp2
     go_roundw
     case measure=>simp [intOf];omega
     case rel=>exact ⟨k+mk,done++[J],by omega,by go_num,by simpa using HO5.out,by simp;omega,by rw [HFL.out,HLS.out,List.append_assoc];rfl,(fun t ht=>by
      rcases List.mem_append.1 ht with ht|ht
      ·exact HSM.out t ht
      ·simp at ht;subst ht;exact hjs),HY5.out,HB5.out⟩
    ·have hen:=lines_end (width:=width) (l:=l) (i:=k) (by omega)
     have HE:=hd_ hen;clear hen
     obtain ⟨A3,c3,hv3⟩:=own_sliceF HO.out
     subst hv3
     go_wp2
     go_ret2
     have e:fillW width l=done:=by rw [HFL.out,HE.out,List.append_nil]
     refine ⟨A3,c3,by rw [e];rfl, ?_,HBr.out⟩
     rw [e]
     refine ⟨?_,by simp only [maxLen];omega,fun t ht=>by have:=HSM.out t ht;simp only [maxLen];omega⟩
     have:=Sl.of_own HO.out
     exact this
  | succ i =>
   rw [show (((i+1:Nat):Int)-1)=(i:Int) from by omega]
   obtain ⟨b,off,rfl,hb,_⟩:=HL.out.1.2 (by omega)
   obtain ⟨u1,hu1⟩:=HX.out.some_ (j:=i) (by omega)
   have hf1:=HX.out.free i
   have hlt1:=HX.out.lt.2
   have hlt2:=HY.out.lt.2
   go_wp2
   have HX1:=hd_ (HX.out.set i (.int .i64 (-1)))
   have HY1:=hd_ (HY.out.other (g':=gl) (fun e=>HNE.out e.symm) i (.int .i64 (-1)))
   have HD1:=hd_ (HD.out.set1 (i:=i) (.int .i64 (-1)))
   have HS1:Hid (ScanF width l i 0 (xs.set i (.int .i64 (-1))) ys):=hd_ ⟨by rw [List.getElem?_set_self (by rw [HX.out.1];omega)];rfl,fun h=>by omega⟩
   have HB1:=hd_ (HB.out.setCell (p:=⟨gl,i,none⟩) HX.out.lt.1 (.int .i64 (-1)))
   clear hu1 hf1 HX HY HD HB
   generalize wr.setCell ⟨gl,i,none⟩ (.int .i64 (-1))=wo at *
   generalize xs.set i (.int .i64 (-1))=xs1 at *
   go_loopw [11,12] (fun k _ wr=>∃ (K:Nat) (xs ys:List Value),i+1<=K/\K<=l.length+1/\k=.int .i64 (K:Nat)/\IRow wr w.heap.size gl (l.length+1) xs/\IRow wr w.heap.size gm l.length ys/\DoneF width l (i+1) xs ys/\ScanF width l i (K-i-1) xs ys/\Below w.heap.size w wr) (fun k _ _=>l.length+1-(intOf k).toNat)
   case atStart=>exact ⟨i+1,xs1,ys,by omega,by omega,by go_num,HX1.out,HY1.out,HD1.out,by rw [show i+1-i-1=0 by omega];exact HS1.out,HB1.out⟩
   case round =>
    obtain ⟨K,xs,ys,hK1,hK2,rfl,hx,hy,hd,hsc,hB⟩:=hrel
    have HX:=hd_ hx;have HY:=hd_ hy;have HD:=hd_ hd;have HB:=hd_ hB;have HS:=hd_ hsc
    have hszr:=hB.size
    clear hx hy hd hB hsc HX1 HY1 HD1 HS1 HB1
    by_cases hlt:K<=l.length
    ·have x1:wr.cell? ⟨gl,i,none⟩=some (.int .i64 (scanAt width l i (K-i-1)).1):=by rw [HX.out.cell (by omega)];exact HS.out.1
     have x2:wr.cell? ⟨gl,K,none⟩=some (.int .i64 (leastAt width l K)):=by rw [HX.out.cell (by omega)];exact HD.out.1 K (by omega) hlt
     obtain ⟨u2,hu2⟩:=HY.out.some_ (j:=i) (by omega)
     have f1:=HX.out.free i
     have f2:=HY.out.free i
     have hbd:=HF.out.scan_bd (i:=i) (K-i-1) (by omega)
     have hct:=HF.out.cost (i:=i) (k:=K) (by omega) hlt
     have hle:=HF.out.least hlt
     have hlg:=HF.out.long (i:=i) (k:=K) (by omega) hlt
     have hcs:costAt width l i K=badW (longW ((l.drop i).take (K-i))) width ((K:Int)==(l.length:Int))+leastAt width l K:=by
      have e:decide (K=l.length)=((K:Int)==(l.length:Int)):=by rw [beq_dec,Bool.eq_iff_iff];simp;omega
      rw [costAt,e]
     have hbb:badW (longW ((l.drop i).take (K-i))) width (decide (K=l.length))=badW (longW ((l.drop i).take (K-i))) width ((K:Int)==(l.length:Int)):=by
      have e:decide (K=l.length)=((K:Int)==(l.length:Int)):=by rw [beq_dec,Bool.eq_iff_iff];simp;omega
      rw [e]
     rw [hbb] at hct
     have HY1:=hd_ (fun h=>scan_yes (width:=width) (l:=l) (i:=i) (K:=K) (by omega) h)
     have HN1:=hd_ (fun h=>scan_no (width:=width) (l:=l) (i:=i) (K:=K) (by omega) h)
     have HLN:Hid (∀ nq,Calls Tryz.prog 146 #[.slice (some ⟨b,off+i,none⟩) (K-i) (c-i)] (wr.drewN nq) fun e w'=>e=.returned (.int .i64 (longW ((l.drop i).take (K-i))))/\w'=wr.drewN nq):=hd_ (fun nq =>
      (long_any ((l.drop i).take (K-i)) (some ⟨b,off+i,none⟩) (K-i) (c-i) (sub_len (by omega) hlt) (wr.drewN nq) (sub_txs (HL.out.past (w':=wr.drewN nq) (below_drewN HB.out nq)) (by omega) hlt) (by omega) (fun t ht=>HF.out.small t (List.mem_of_mem_drop (List.mem_of_mem_take ht)))).mono fun _ _ ⟨h1,h2⟩=>⟨h1,h2.symm⟩)
     have HBD:Hid (∀ nq,Calls Tryz.prog 145 #[.int .i64 (longW ((l.drop i).take (K-i))),.int .i64 width,.bool ((K:Int)==(l.length:Int))] (wr.drewN nq) fun e w'=>e=.returned (.int .i64 (badW (longW ((l.drop i).take (K-i))) width ((K:Int)==(l.length:Int))))/\w'=wr.drewN nq):=hd_ (fun nq =>
      (bad_any (longW ((l.drop i).take (K-i))) width ((K:Int)==(l.length:Int)) (wr.drewN nq) hlg.1 hlg.2 hw1 hw2).mono fun _ _ ⟨h1,h2⟩=>⟨h1,h2.symm⟩)
     have HCS:=hd_ hcs
     clear hcs hbb hlg
     generalize badW (longW ((l.drop i).take (K-i))) width ((K:Int)==(l.length:Int))=bd at *
     generalize longW ((l.drop i).take (K-i))=LG at *
     generalize leastAt width l K=lK at *
     generalize hS:scanAt width l i (K-i-1)=S at *
     obtain ⟨S1,S2⟩:=S
     simp only at x1 hbd
     have HSE:=hd_ hS
     have HZS:Hid (K-i-1=0->S1=-1):=hd_ (fun h=>by rw [h] at hS;have:=congrArg Prod.fst hS;exact this.symm)
     clear hS
     have hci:¬ c=i:=by omega
     have k1:IntKind.i64.wrap (bd+lK)=bd+lK:=IntWalk.i64_in _ (by omega)
     have k2:(i:Int)<=(K:Int):=by omega
     have k3:(K:Int)<=(l.length:Int):=by omega
     have k4:(K:Int)<(l.length:Int)+1:=by omega
     have k5:(i:Int)<(l.length:Int):=by omega
     go_wp2
     go_quiet (first
      | (go_at_call 146;exact Calls.quiet_of_same (HLN.out _))
      | (go_at_call 145;exact Calls.quiet_of_same (HBD.out _)))
     clear k1
     by_cases t1:S1<0
     ·have z1:decide (S1<0)=true:=decide_eq_true t1
      have hsy:=HY1.out (.inl t1)
      rw [HCS.out] at hsy
      have HSY:=hd_ hsy;clear hsy t1
      exact rq21
     ·have z1:decide (S1<0)=false:=decide_eq_false t1
      by_cases t2:bd+lK<=S1
      ·have z2:decide (bd+lK<=S1)=true:=decide_eq_true t2
       have hsy:=HY1.out (.inr (by rw [HCS.out];exact t2))
       rw [HCS.out] at hsy
       have HSY:=hd_ hsy;clear hsy t1 t2
       exact rq21
      ·have z2:decide (bd+lK<=S1)=false:=decide_eq_false t2
       have hq:0<K-i-1:=by
        rcases Nat.eq_zero_or_pos (K-i-1) with h0|h0
        ·have:=HZS.out h0;omega
        ·exact h0
       have hsn:=HN1.out (by rw [HCS.out];omega)
       have HSN:=hd_ hsn;have HQ:=hd_ hq;clear hsn t1 t2 hq
       go_wp2
       go_roundw
       case measure=>simp [intOf];omega
       case rel=>exact ⟨K+1,xs,ys,by omega,by omega,by go_num,HX.out.drewN _,HY.out.drewN _,HD.out,ScanF.no (by rw [HSN.out,HSE.out]) HS.out HQ.out,below_drewN HB.out _⟩
    ·obtain rfl:K=l.length+1:=by omega
     go_wp2
     go_roundw
     case measure=>simp [intOf]
     case rel=>exact ⟨i,xs,ys,by omega,by go_num,HX.out,HY.out,HD.out.more HF.out (by omega) (by rw [show l.length-i=l.length+1-i-1 by omega];exact HS.out),HB.out⟩
end Go.Proofs.YtddfdmopaeghnadGreatDoor
