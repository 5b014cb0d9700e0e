/- Walks of package doc's inner functions: printable, one, Parts, Check, Ends. Conditions: the slice of nodes lies below the call's own blocks; Ends: it is a doc that may be. -/
import Derived.Test.YtddfdmopaeghnadGreatDoorRows
import Derived.Test.YtddfdmopaeghnadGreatDoorRqMm
import Derived.Test.YtddfdmopaeghnadGreatDoorRqDp
import Derived.WalkKit
import Derived.WalkSpells
import Derived.WalkLawsBesides
set_option maxRecDepth 100000
set_option maxHeartbeats 16000000
namespace Go.Proofs.YtddfdmopaeghnadGreatDoor
open Go.RowKit
def errV (n:Int):Value:=if n=0 then .nilIface else .iface 24 (.int .i64 n)
theorem errV_zero {n:Int} (h:n=0):Value.nilIface=errV n:=by rw [errV,if_pos h]
theorem errV_pos {n:Int} (h:n≠0):Value.iface 24 (.int .i64 n)=errV n:=by rw [errV,if_neg h]
def ndCells (d:Nd):List Value:=[.int .i64 d.op,.string d.text,.int .i64 d.n]
def Nds (w:World) (B:Nat) (A:Option Addr) (l:List Nd):Prop:=Sl w B 3 A l.length (l.flatMap ndCells)/\l.length<=maxLen/\∀ d ∈ l,d.text.size<=maxLen
theorem flat3 (l:List Nd) (k j:Nat) (hk:k<l.length) (hj:j<3):(l.flatMap ndCells)[k*3+j]?=(ndCells l[k])[j]?:=by
 induction l generalizing k with
 | nil=>simp at hk
 | cons d r ih =>
  rw [List.flatMap_cons]
  cases k with
  | zero=>rw [List.getElem?_append_left (by simp [ndCells];omega)];simp
  | succ k=>rw [List.getElem?_append_right (by simp [ndCells];omega),show (k+1)*3+j-(ndCells d).length=k*3+j by simp [ndCells];omega,ih k (by simpa using hk)];rfl
theorem Nds.at_ {w:World} {B:Nat} {A:Option Addr} {l:List Nd} (h:Nds w B A l) {k:Nat} (hk:k<l.length) :
  ∃ b off,A=some ⟨b,off,none⟩/\b<B/\w.cell? ⟨b,off+k*3,none⟩=some (.int .i64 l[k].op)/\w.cell? ⟨b,off+k*3+1,none⟩=some (.string l[k].text)/\w.cell? ⟨b,off+k*3+2,none⟩=some (.int .i64 l[k].n):=by
 obtain ⟨b,off,h1,h2,h3⟩:=h.1.2 (by omega)
 exact ⟨b,off,h1,h2,h3 (k*3+0) _ (flat3 l k 0 hk (by omega)),by rw [Nat.add_assoc];exact h3 _ _ (flat3 l k 1 hk (by omega)),by rw [Nat.add_assoc];exact h3 _ _ (flat3 l k 2 hk (by omega))⟩
theorem Nds.node {w wr:World} {B:Nat} {A:Option Addr} {l:List Nd} (h:Nds w B A l) (hB:Below B w wr) {k:Nat} (hk:k<l.length) :
  ∃ b off op t n,A=some ⟨b,off,none⟩/\b<B/\l[k]=⟨op,t,n⟩/\t.size<=maxLen/\wr.cell? ⟨b,off+k*3,none⟩=some (.int .i64 op)/\wr.cell? ⟨b,off+k*3+1,none⟩=some (.string t)/\wr.cell? ⟨b,off+k*3+2,none⟩=some (.int .i64 n):=by
 obtain ⟨b,off,h1,h2,c1,c2,c3⟩:=h.at_ hk
 refine ⟨b,off,l[k].op,l[k].text,l[k].n,h1,h2,rfl,h.2.2 _ (List.getElem_mem hk), ?_, ?_, ?_⟩
 ·exact (hB.cell (p:=⟨b,off+k*3,none⟩) h2).trans c1
 ·exact (hB.cell (p:=⟨b,off+k*3+1,none⟩) h2).trans c2
 ·exact (hB.cell (p:=⟨b,off+k*3+2,none⟩) h2).trans c3
theorem Nds.past {w w':World} {A:Option Addr} {l:List Nd} (h:Nds w w.heap.size A l) (hb:Below w.heap.size w w'):Nds w' w'.heap.size A l:=⟨h.1.past hb,h.2⟩
theorem printable_any (s:ByteArray) (w:World) (hs:s.size<=maxLen) :
  Calls Tryz.prog 191 #[.string s] w fun e w'=>e=.returned (.bool (prtAll s))/\w=w':=by
 unfold maxLen at hs
 go_enter Tryz.func191,Tryz.ntmps191
 go_wp2
 go_loop [3,6] (fun _ i=>∃ k:Nat,k<=s.size/\i=.int .i64 k/\(s.data.toList.take k).all prt=true) (fun _ i=>s.size-(intOf i).toNat)
 case atStart=>exact ⟨0,Nat.zero_le _,rfl,rfl⟩
 case round =>
  obtain ⟨k,hk,rfl,ha⟩:=hrel
  have HA:=hd_ ha;clear ha
  by_cases hlt:k<s.size
  ·have hk':k<s.data.toList.length:=by simpa using hlt
   have hsp:s.data.toList=s.data.toList.take k++s[k]::s.data.toList.drop (k+1):=by
    have h1:=List.take_append_drop k s.data.toList
    rw [List.drop_eq_getElem_cons hk'] at h1
    exact h1.symm
   have HT:=hd_ hsp;clear hsp
   have hbad:(s[k].toNat<32∨126<s[k].toNat)->prtAll s=false:=by
    intro h
    unfold prtAll
    rw [HT.out,List.all_append,List.all_cons]
    have:prt s[k]=false:=by unfold prt;rcases h with h|h <;> simp <;> omega
    rw [this];simp
   have hgood:(32<=s[k].toNat/\s[k].toNat<=126)->(s.data.toList.take (k+1)).all prt=true:=by
    intro h
    rw [List.take_succ_eq_append_getElem hk',List.all_append,HA.out]
    have:prt s[k]=true:=by unfold prt;simp;omega
    show (true&&(prt s[k]&&true))=true
    rw [this];rfl
   have HG:=hd_ hgood;clear hgood
   have HB:=hd_ hbad;clear hbad
   go_wp2
   all_goals first
    | (go_round
       case rel=>exact ⟨k+1,by omega,by go_num,HG.out (by omega)⟩
       case measure=>simp [intOf];omega)
    | (go_ret
       have hb:=HB.out (by omega)
       exact ⟨by rw [hb];rfl,rfl⟩)
  ·go_wp2
   go_ret
   have:prtAll s=true:=by
    unfold prtAll
    rw [← HA.out,List.take_of_length_le (by simp;omega)]
   exact ⟨by rw [this];rfl,rfl⟩
theorem one_any (op n:Int) (t:ByteArray) (w:World) (hs:t.size<=maxLen) :
  Calls Tryz.prog 154 #[.agg #[.int .i64 op,.string t,.int .i64 n]] w (Ret w (errV (oneF op t n))):=by
 go_enter Tryz.func154,Tryz.ntmps154
 go_wp2_with (go_at_call 191;refine (printable_any _ _ hs).mono ?_;rintro e w' ⟨rfl,rfl⟩)
 all_goals go_ret
 all_goals refine ⟨?_,by repeat (first|exact Below.refl _ _|apply Below.alloc _ (Nat.le_refl _)|apply Below.drew)⟩
 all_goals simp_all [errV,oneF]
 all_goals first
  | omega
  | (rw [if_neg (by rintro ⟨_,_⟩;simp_all;done)];done)
  | (split <;> simp_all;done)
  | (split <;> simp_all <;> omega;done)
  | (split <;> (try split) <;> (try split) <;> simp_all <;> omega;done)
theorem one_ok (op n:Int) (t:ByteArray) (w:World) (hs:t.size<=maxLen) (h:oneF op t n=0) :
  Calls Tryz.prog 154 #[.agg #[.int .i64 op,.string t,.int .i64 n]] w (Ret w .nilIface):=by
 rw [errV_zero h]
 exact one_any op n t w hs
theorem one_bad (op n:Int) (t:ByteArray) (w:World) (hs:t.size<=maxLen) (h:oneF op t n≠0) :
  Calls Tryz.prog 154 #[.agg #[.int .i64 op,.string t,.int .i64 n]] w (Ret w (.iface 24 (.int .i64 (oneF op t n)))):=by
 rw [errV_pos h]
 exact one_any op n t w hs
theorem parts_any (op:Int) (w:World):Calls Tryz.prog 155 #[.int .i64 op] w fun e w'=>e=.returned (.int .i64 (parts op))/\w=w':=by
 go_enter Tryz.func155,Tryz.ntmps155
 go_wp2
 all_goals go_ret
 all_goals simp_all [parts]
theorem check_any (l:List Nd) (A:Option Addr) (c:Nat) (w:World) (hl:Nds w w.heap.size A l) :
  Calls Tryz.prog 88 #[.slice A l.length c] w (Ret w (errV (checkF l))):=by
 have hm:=hl.2.1
 unfold maxLen at hm
 by_cases h400:400<l.length
 ·go_enter Tryz.func88,Tryz.ntmps88
  go_wp2
  go_ret
  exact ⟨by simp [errV,checkF,h400],Below.refl _ _⟩
 ·go_enter Tryz.func88,Tryz.ntmps88
  go_wp2
  have HN:=hd_ hl;clear hl
  go_loopw [3,4,6,7,14] (fun need whole _ _ i wr=>∃ (k:Nat) (nd:Int) (wh:Bool),k<=l.length/\i=.int .i64 k/\need=.int .i64 nd/\whole=.bool wh/\-(k:Int)<=nd-1/\nd-1<=k/\checkF l=chk (l.drop k) nd wh/\Below w.heap.size w wr) (fun _ _ _ _ i _=>l.length-(intOf i).toNat)
  case atStart=>exact ⟨0,1,true,by omega,rfl,rfl,rfl,by omega,by omega,by simp [checkF,h400],Below.refl _ _⟩
  case round =>
   obtain ⟨k,nd,wh,hk,rfl,rfl,rfl,hb1,hb2,hc,hB⟩:=hrel
   have HC:=hd_ hc;clear hc
   by_cases hlt:k<l.length
   ·obtain ⟨b,off,op,t,n,rfl,hb,hd,hts,d1,d2,d3⟩:=HN.out.node hB hlt
    have HD:=hd_ hd;clear hd
    have hsz:=hB.size
    have hpb:=parts_bd op
    have HS:=hd_ (chk_step (nd:=nd) (wh:=wh) hlt HD.out.symm)
    by_cases he:oneF op t n=0
    ·have HE:=hd_ he;clear he
     cases wh
     all_goals go_wp2_with (first
      | (go_at_call 154;refine (one_ok op n t _ hts HE.out).mono ?_;rintro e w1 ⟨rfl,hB1⟩;have hcc:=hB1.cell (p:=⟨wr.heap.size,0,none⟩) (by simp);have hsz1:=hB1.size)
      | (go_at_call 155;refine (parts_any _ _).mono ?_;rintro e w2 ⟨rfl,rfl⟩))
     all_goals go_roundw
     all_goals try (case measure=>simp [intOf];omega)
     all_goals refine ⟨k+1,nd+parts op-1,_,by omega,by go_num, ?_,rfl,by omega,by omega, ?_,((hB.alloc hsz _).trans (hB1.mono (by simp;omega)))⟩
     all_goals first
      | (rw [show nd+(parts op-1)=nd+parts op-1 from by omega];done)
      | (rw [HC.out,HS.out,if_neg (by simp [HE.out])];first|rfl|(simp;done))
    ·have HE:=hd_ he;clear he
     go_wp2_with (go_at_call 154;refine (one_bad op n t _ hts HE.out).mono ?_;rintro e w1 ⟨rfl,hB1⟩)
     go_ret
     refine ⟨?_,((hB.alloc hsz _).trans (hB1.mono (by simp;omega)))⟩
     rw [HC.out,HS.out,if_pos HE.out,← errV_pos HE.out];rfl
   ·have HS:=hd_ (chk_end (nd:=nd) (wh:=wh) (l:=l) (k:=k) (by omega))
    cases wh with
    | false =>
     go_wp2
     go_ret
     refine ⟨?_,hB⟩
     rw [HC.out,HS.out];simp [errV]
    | true =>
     by_cases h0:nd=0
     ·subst h0
      go_wp2
      go_ret
      refine ⟨?_,hB⟩
      rw [HC.out,HS.out];simp [errV]
     ·have h0':(nd != 0)=true:=by simpa using h0
      have H0:=hd_ h0;clear h0
      go_wp2
      go_ret
      refine ⟨?_,hB⟩
      rw [HC.out,HS.out,if_neg (fun h=>H0.out h.2)];simp [errV]
end Go.Proofs.YtddfdmopaeghnadGreatDoor
