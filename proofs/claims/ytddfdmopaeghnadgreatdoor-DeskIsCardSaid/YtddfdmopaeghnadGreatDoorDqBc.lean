/- Plain facts on laying docs by choices: more choices, deeper, all ways. With what it rests on. Conditions: as each theorem states them. -/
import Derived.Laws.Closers25
import Derived.Test.YtddfdmopaeghnadGreatDoorDqOp
import Derived.Test.YtddfdmopaeghnadGreatDoorDqSh
import Derived.IntWalk
import Derived.Laws.Concat
import Derived.Maps.OwnOps
import Derived.DeepKeys4
set_option maxRecDepth 100000
set_option maxHeartbeats 16000000
namespace Go.Proofs.YtddfdmopaeghnadGreatDoor
variable {P Q:Prop}
theorem ds3 (k:Q) (h:Nx_ Q->P:=by intro k_;go_at_call 162;refine (HCH0.out _ (HPW.out _ aF_).1 (HPW.out _ aF_).2).mono ?_;rintro e w4 ⟨rfl,hB4⟩;have e0':=(hB4.cell (p:=⟨gs,0,none⟩) (a5_ HC.out.blk)).trans e0;have e1':=(hB4.cell (p:=⟨w.heap.size,0,none⟩) (a5_ HX.out)).trans e1;revert w4 hB4 e0' e1';exact k_.o):P:=h ⟨k⟩
theorem ds4 (k:Q) (h:Nx_ Q->P:=by intro k_;(have hB78:Below w7.heap.size w7 w8:=by first|exact HB8.out|exact bR_ HB8.out|exact eM_ HB8.out);revert hB78;exact k_.o):P:=h ⟨k⟩
theorem ds5 (k:Q) (h:Nx_ Q->P:=by intro k_;have gb7:w.grownBy w7 (some bm):=a2_ (by first|exact HG6.out|exact pN_ HG6.out|exact aj8_ HG6.out _) HG7.out;revert gb7;exact k_.o):P:=h ⟨k⟩
section
theorem dr62 (h:P:=by
 obtain ⟨s1,w1⟩:=p
 rw [ha] at h
 first
 |
  rw [ia ha]
  simp only at h ⊢
  cases hb:b.lay (dp+d.n) w1 with
  | error e=>rw [hb] at h;cases h
  | ok q =>
   obtain ⟨s2,w2⟩:=q
   rw [hb] at h
   rw [ib hb]
   cases h;rfl
  done
 |
  simp only at h
  cases hb:b.lay (dp+d.n) w1 with
  | error e=>rw [hb] at h;cases h
  | ok q =>
   obtain ⟨s2,w2⟩:=q
   rw [hb] at h
   cases h
   have h1:=ia (m:=m) (D.good_l hg) om_ om_ ha
   have h2:=ib (m:=m) (D.good_r hg) om_ om_ hb
   rw [ByteArray.size_append]
   omega
  done
 |
  simp only at h
  cases hbb:b.lay (dp+d.n) w1 with
  | error e=>rw [hbb] at h;cases h
  | ok q =>
   obtain ⟨s2,w2⟩:=q
   rw [hbb] at h
   cases h
   obtain ⟨u,h1,h2,h3⟩:=ia hb ha
   obtain ⟨v,g1,g2,g3⟩:=ib (fun y hy=>hb y (by rw [h2];simp [hy])) hbb
   refine ⟨u++v,List.mem_flatMap.2 ⟨u,h1,List.mem_map_of_mem g1⟩,by rw [h2,g2,List.append_assoc], ?_⟩
   rw [if_pos h6,D.lay_more h3]
   simp only [List.nil_append]
   rw [g3]):P:=h
theorem dq5 (h:P:=by
 rw [if_pos h6] at h ⊢
 cases ha:a.lay (dp+d.n) w with
 | error e=>rw [ha] at h;cases h
 | ok p =>
  exact dr62):P:=h
theorem D.lay_more {x:D}:∀ {dp:Int} {w r v:List Int} {s:ByteArray},x.lay dp w=.ok (s,r)->x.lay dp (w++v)=.ok (s,r++v):=by
 induction x with
 | leaf d =>
  intro dp w r v s h
  simp only [D.lay] at h ⊢
  by_cases h1:d.op=1
  ·rw [if_pos h1] at h ⊢;cases h;rfl
  ·rw [if_neg h1] at h ⊢
   by_cases h5:d.op=5
   ·rw [if_pos h5] at h ⊢;cases h;rfl
   ·rw [if_neg h5] at h ⊢;cases h;rfl
 | un d a ih =>
  intro dp w r v s h
  simp only [D.lay] at h ⊢
  by_cases h7:d.op=7
  ·rw [if_pos h7] at h ⊢;exact ih h
  ·rw [if_neg h7] at h ⊢
   cases w with
   | nil=>cases h
   | cons c w' =>
    simp only [List.cons_append] at h ⊢
    by_cases hc:c=0
    ·rw [if_pos hc] at h ⊢
     cases hf:a.flat with
     | none=>rw [hf] at h;cases h
     | some t=>rw [hf] at h;cases h;rfl
    ·rw [if_neg hc] at h ⊢;exact ih h
 | bin d a b ia ib =>
  intro dp w r v s h
  simp only [D.lay] at h ⊢
  by_cases h6:d.op=6
  ·exact dq5
  ·rw [if_neg h6] at h ⊢
   cases w with
   | nil=>cases h
   | cons c w' =>
    simp only [List.cons_append] at h ⊢
    by_cases hc:c=0
    ·rw [if_pos hc] at h ⊢;exact ia h
    ·rw [if_neg hc] at h ⊢;exact ib h
def D.good (x:D):Prop:=∀ d ∈ x.enc,cP_ d.op d.text d.n=0
theorem v1_ {d:Nd} (h:cP_ d.op d.text d.n=0) (h1:d.op=1):∀ c ∈ d.text.data.toList,c≠10:=by
 unfold cP_ at h
 rw [if_neg om_] at h
 split at h
 ·cases h
 ·split at h
  ·cases h
  ·rename_i hh
   have hp:e8_ d.text=true:=by
    cases hp:e8_ d.text with
    | true=>rfl
    | false=>exact absurd ⟨h1,.inr (.inr hp)⟩ hh
   intro c hc e
   have:=List.all_eq_true.1 hp c hc
   subst e
   revert this;decide
theorem oN_ {d:Nd} (h:cP_ d.op d.text d.n=0):d.text.size<=20:=by
 by_cases h1:d.op=1
 ·unfold cP_ at h
  rw [if_neg om_] at h
  split at h
  ·cases h
  ·split at h
   ·cases h
   ·rename_i hh
    rcases Nat.lt_or_ge 20 d.text.size with h2|h2
    ·exact absurd ⟨h1,.inr (.inl h2)⟩ hh
    ·exact h2
 ·unfold cP_ at h
  split at h
  ·cases h
  ·split at h
   ·cases h
   ·rename_i hh
    have ht:d.text.toList=[]:=by
     cases ht:d.text.toList with
     | nil=>rfl
     | cons a r=>exact absurd (.inl ⟨h1,by rw [ht];simp⟩) hh
    rw [ByteArray.toList_eq] at ht
    have h0:d.text.data.toList.length=0:=by rw [ht];rfl
    have h1:d.text.data.toList.length=d.text.size:=by simp
    omega
theorem D.good_un {d:Nd} {a:D} (h:(D.un d a).good):a.good:=fun e he=>h e (by simp [D.enc,he])
theorem D.good_l {d:Nd} {a b:D} (h:(D.bin d a b).good):a.good:=fun e he=>h e (by simp [D.enc,he])
theorem D.good_r {d:Nd} {a b:D} (h:(D.bin d a b).good):b.good:=fun e he=>h e (by simp [D.enc,he])
theorem D.flat_no {x:D}:∀ {s:ByteArray},x.good->x.flat=some s->∀ c ∈ s.data.toList,c≠10:=by
 induction x with
 | leaf d =>
  intro s hg h
  simp only [D.flat] at h
  split at h
  ·rename_i h1;cases h;exact v1_ (hg d (by simp [D.enc])) h1
  ·split at h
   ·cases h;intro c hc;simp at hc;subst hc;decide
   ·split at h
    ·cases h;intro c hc;simp at hc
    ·cases h
 | un d a ih=>intro s hg h;exact ih (D.good_un hg) h
 | bin d a b ia ib =>
  intro s hg h
  simp only [D.flat] at h
  split at h
  ·cases ha:a.flat with
   | none=>rw [ha] at h;simp at h
   | some p =>
    cases hb:b.flat with
    | none=>rw [ha,hb] at h;simp at h
    | some q =>
     rw [ha,hb] at h
     simp only [Option.some.injEq] at h
     subst h
     intro c hc
     simp only [ByteArray.data_append,Array.toList_append,List.mem_append] at hc
     rcases hc with hc|hc
     ·exact ia (D.good_l hg) ha c hc
     ·exact ib (D.good_r hg) hb c hc
  ·exact ia (D.good_l hg) h
theorem dr53 (h:P:=by
 induction y with
 | leaf d =>
  intro hg t ht
  have:=oN_ (hg d (by simp [D.enc]))
  simp only [D.flat] at ht
  split at ht
  ·cases ht;simp only [D.sz];omega
  ·split at ht
   ·cases ht;simp [ByteArray.size,D.sz]
   ·split at ht
    ·cases ht;simp
    ·cases ht
 | un d a ih=>intro hg t ht;have:=ih (D.good_un hg) t ht;simp only [D.sz];omega
 | bin d a b ia ib =>
  intro hg t ht
  simp only [D.flat] at ht
  split at ht
  ·cases ha:a.flat with
   | none=>rw [ha] at ht;simp at ht
   | some p =>
    cases hb:b.flat with
    | none=>rw [ha,hb] at ht;simp at ht
    | some q =>
     rw [ha,hb] at ht
     simp only [Option.some.injEq] at ht
     subst ht
     have h1:=ia (D.good_l hg) p ha
     have h2:=ib (D.good_r hg) q hb
     rw [ByteArray.size_append]
     simp only [D.sz];omega
  ·have:=ia (D.good_l hg) t ht;simp only [D.sz];omega):P:=h
theorem dr64 (h:P:=by
 have hn:=ag4_ (hg d (by simp [D.enc]))
 simp only [D.lay] at h
 simp only [D.sz] at hm ⊢
 first
 |
  have hmul:(a.sz+b.sz+1)*(21+m)=a.sz*(21+m)+b.sz*(21+m)+(21+m):=by rw [Nat.add_mul,Nat.add_mul,Nat.one_mul]
  split at h
  ·cases ha:a.lay (dp+d.n) w with
   | error e=>rw [ha] at h;cases h
   | ok p =>
    exact dr62
  ·cases w with
   | nil=>cases h
   | cons c w' =>
    simp only at h
    split at h
    ·have:=ia (m:=m) (D.good_l hg) om_ om_ h;omega
    ·have:=ib (m:=m) (D.good_r hg) om_ om_ h;omega
  done
 |
  have hmul:(a.sz+1)*(21+m)=a.sz*(21+m)+(21+m):=by rw [Nat.add_mul,Nat.one_mul]
  split at h
  ·have:=ih (m:=m) (D.good_un hg) om_ om_ h;omega
  ·cases w with
   | nil=>cases h
   | cons c w' =>
    simp only at h
    split at h
    ·cases hf:a.flat with
     | none=>rw [hf] at h;cases h
     | some t =>
      rw [hf] at h;cases h
      have h1:=flat_sz a (D.good_un hg) s hf
      have h2:20*a.sz<=a.sz*(21+m):=by rw [Nat.mul_comm];exact Nat.mul_le_mul_left _ om_
      omega
    ·have:=ih (m:=m) (D.good_un hg) om_ om_ h;omega):P:=h
theorem D.lay_size {x:D}:∀ {dp:Int} {w r:List Int} {s:ByteArray},x.good->0<=dp->x.lay dp w=.ok (s,r)->s.size<=x.sz*(21+(dp.toNat+8*x.sz)):=by
 have flat_sz:∀ y:D,y.good->∀ t,y.flat=some t->t.size<=20*y.sz:=by
  intro y
  exact dr53
 have key:∀ {y:D} {m:Nat} {dp:Int} {w r:List Int} {s:ByteArray},y.good->0<=dp->dp.toNat+8*y.sz<=m->y.lay dp w=.ok (s,r)->s.size<=y.sz*(21+m):=by
  intro y
  induction y with
  | leaf d =>
   intro m dp w r s hg hd hm h
   have:=oN_ (hg d (by simp [D.enc]))
   simp only [D.lay] at h
   simp only [D.sz] at hm ⊢
   split at h
   ·cases h;omega
   ·split at h
    ·cases h;simp
    ·cases h
     rw [ByteArray.size_append]
     simp [ByteArray.size,bO_]
     omega
  | un d a ih =>
   intro m dp w r s hg hd hm h
   exact dr64
  | bin d a b ia ib =>
   intro m dp w r s hg hd hm h
   exact dr64
 intro dp w r s hg hd h
 exact key hg hd (Nat.le_refl _) h
end
section
def D.ways:D->List (List Int)
 | .leaf _=>[[]]
 | .un d a=>if d.op=7 then a.ways else (if a.flat.isSome=true then [[0]] else [])++a.ways.map (1::·)
 | .bin d a b=>if d.op=6 then a.ways.flatMap (fun u=>b.ways.map (u++·)) else a.ways.map (0::·)++b.ways.map (1::·)
def Bits (w:List Int):Prop:=∀ c ∈ w,c=0∨c=1
theorem D.ways_bits {x:D}:∀ u ∈ x.ways,Bits u:=by
 induction x with
 | leaf d=>intro u hu;simp [D.ways] at hu;subst hu;intro c hc;cases hc
 | un d a ih =>
  intro u hu
  simp only [D.ways] at hu
  split at hu
  ·exact ih u hu
  ·rcases List.mem_append.1 hu with hu|hu
   ·split at hu
    ·simp at hu;subst hu;intro c hc;simp at hc;exact .inl hc
    ·cases hu
   ·obtain ⟨v,hv,rfl⟩:=List.mem_map.1 hu
    intro c hc
    rcases List.mem_cons.1 hc with rfl|hc
    ·exact .inr rfl
    ·exact ih v hv c hc
 | bin d a b ia ib =>
  intro u hu
  simp only [D.ways] at hu
  split at hu
  ·obtain ⟨v,hv,hu⟩:=List.mem_flatMap.1 hu
   obtain ⟨z,hz,rfl⟩:=List.mem_map.1 hu
   intro c hc
   rcases List.mem_append.1 hc with hc|hc
   ·exact ia v hv c hc
   ·exact ib z hz c hc
  ·rcases List.mem_append.1 hu with hu|hu
   ·obtain ⟨v,hv,rfl⟩:=List.mem_map.1 hu
    intro c hc
    rcases List.mem_cons.1 hc with rfl|hc
    ·exact .inl rfl
    ·exact ia v hv c hc
   ·obtain ⟨v,hv,rfl⟩:=List.mem_map.1 hu
    intro c hc
    rcases List.mem_cons.1 hc with rfl|hc
    ·exact .inr rfl
    ·exact ib v hv c hc
theorem D.ways_ne {x:D}:x.ways≠[]:=by
 induction x with
 | leaf d=>simp [D.ways]
 | un d a ih =>
  simp only [D.ways]
  split
  ·exact ih
  ·simp [ih]
 | bin d a b ia ib =>
  simp only [D.ways]
  split
  ·intro h
   rw [List.flatMap_eq_nil_iff] at h
   cases ha:a.ways with
   | nil=>exact ia ha
   | cons u r =>
    have:=h u (by rw [ha];simp)
    simp [ib] at this
  ·simp [ia]
theorem D.lay_way {x:D}:∀ {dp:Int} {u:List Int},u ∈ x.ways->∃ s,x.lay dp u=.ok (s,[]):=by
 induction x with
 | leaf d =>
  intro dp u hu
  simp [D.ways] at hu;subst hu
  simp only [D.lay]
  split
  ·exact ⟨_,rfl⟩
  ·split <;> exact ⟨_,rfl⟩
 | un d a ih =>
  intro dp u hu
  simp only [D.ways] at hu
  simp only [D.lay]
  by_cases h7:d.op=7
  ·rw [if_pos h7] at hu ⊢;exact ih hu
  ·rw [if_neg h7] at hu ⊢
   rcases List.mem_append.1 hu with hu|hu
   ·split at hu
    ·rename_i hf
     simp at hu;subst hu
     simp only [if_true]
     cases h:a.flat with
     | none=>rw [h] at hf;cases hf
     | some s=>exact ⟨s,rfl⟩
    ·cases hu
   ·obtain ⟨v,hv,rfl⟩:=List.mem_map.1 hu
    simp only
    rw [if_neg de_]
    exact ih hv
 | bin d a b ia ib =>
  intro dp u hu
  simp only [D.ways] at hu
  simp only [D.lay]
  by_cases h6:d.op=6
  ·rw [if_pos h6] at hu ⊢
   obtain ⟨v,hv,hu⟩:=List.mem_flatMap.1 hu
   obtain ⟨z,hz,rfl⟩:=List.mem_map.1 hu
   obtain ⟨s,hs⟩:=ia (dp:=dp+d.n) hv
   obtain ⟨t,ht⟩:=ib (dp:=dp+d.n) hz
   rw [D.lay_more hs]
   simp only [List.nil_append]
   rw [ht]
   exact ⟨_,rfl⟩
  ·rw [if_neg h6] at hu ⊢
   rcases List.mem_append.1 hu with hu|hu
   ·obtain ⟨v,hv,rfl⟩:=List.mem_map.1 hu
    simp only
    rw [if_pos trivial]
    exact ia hv
   ·obtain ⟨v,hv,rfl⟩:=List.mem_map.1 hu
    simp only
    rw [if_neg de_]
    exact ib hv
theorem D.way_of {x:D}:∀ {dp:Int} {w r:List Int} {s:ByteArray},Bits w->x.lay dp w=.ok (s,r)->∃ u,u ∈ x.ways/\w=u++r/\x.lay dp u=.ok (s,[]):=by
 induction x with
 | leaf d =>
  intro dp w r s _ h
  refine ⟨[],by simp [D.ways], ?_⟩
  simp only [D.lay] at h ⊢
  by_cases h1:d.op=1
  ·rw [if_pos h1] at h ⊢;cases h;exact ⟨rfl,rfl⟩
  ·rw [if_neg h1] at h ⊢
   by_cases h5:d.op=5
   ·rw [if_pos h5] at h ⊢;cases h;exact ⟨rfl,rfl⟩
   ·rw [if_neg h5] at h ⊢;cases h;exact ⟨rfl,rfl⟩
 | un d a ih =>
  intro dp w r s hb h
  simp only [D.lay] at h
  simp only [D.ways,D.lay]
  by_cases h7:d.op=7
  ·rw [if_pos h7] at h ⊢
   obtain ⟨u,h1,h2,h3⟩:=ih hb h
   exact ⟨u,h1,h2,by rw [if_pos h7];exact h3⟩
  ·rw [if_neg h7] at h ⊢
   cases w with
   | nil=>cases h
   | cons c w' =>
    simp only at h
    by_cases hc:c=0
    ·rw [if_pos hc] at h
     cases hf:a.flat with
     | none=>rw [hf] at h;cases h
     | some t =>
      rw [hf] at h;cases h
      refine ⟨[0],List.mem_append_left _ si_,by rw [hc];rfl, ?_⟩
      rw [if_neg h7];rfl
    ·rw [if_neg hc] at h
     have hc1:c=1:=by have:=hb c si_;omega
     obtain ⟨u,h1,h2,h3⟩:=ih (fun y hy=>hb y (by simp [hy])) h
     refine ⟨1::u,List.mem_append_right _ (List.mem_map_of_mem h1),by rw [hc1,h2];rfl, ?_⟩
     rw [if_neg h7];simp only;rw [if_neg de_];exact h3
 | bin d a b ia ib =>
  intro dp w r s hb h
  simp only [D.lay] at h
  simp only [D.ways,D.lay]
  by_cases h6:d.op=6
  ·exact dq5
  ·rw [if_neg h6] at h ⊢
   cases w with
   | nil=>cases h
   | cons c w' =>
    simp only at h
    by_cases hc:c=0
    ·rw [if_pos hc] at h
     obtain ⟨u,h1,h2,h3⟩:=ia (fun y hy=>hb y (by simp [hy])) h
     refine ⟨0::u,List.mem_append_left _ (List.mem_map_of_mem h1),by rw [hc,h2];rfl, ?_⟩
     rw [if_neg h6];simp only;rw [if_pos trivial];exact h3
    ·rw [if_neg hc] at h
     have hc1:c=1:=by have:=hb c si_;omega
     obtain ⟨u,h1,h2,h3⟩:=ib (fun y hy=>hb y (by simp [hy])) h
     refine ⟨1::u,List.mem_append_right _ (List.mem_map_of_mem h1),by rw [hc1,h2];rfl, ?_⟩
     rw [if_neg h6];simp only;rw [if_neg de_];exact h3
end
section
theorem Rep.uniq {l:List Nd} {i:Nat} {K:List (D × Int)} (h:Rep l i K):∀ {K'},Rep l i K'->K=K':=by
 induction h with
 | done =>
  intro K' h'
  exact (h'.ge (Nat.le_refl _)).1.symm
 | at_ i K hi _ ih =>
  intro K' h'
  obtain ⟨K2,e,hr⟩:=h'.lt hi
  rw [e,ih hr]
open Classical in
noncomputable def iE_ (l:List Nd) (i:Nat):Nat:=if h:∃ K,Rep l i K then szK h.choose else 0
theorem uP_ {l:List Nd} {i:Nat} {K:List (D × Int)} (h:Rep l i K):iE_ l i=szK K:=by
 have hex:∃ K,Rep l i K:=⟨K,h⟩
 unfold iE_
 rw [dif_pos hex,h.uniq hex.choose_spec]
theorem apO_ {l:List Nd} {i:Nat} {K:List (D × Int)} (h:Rep l i K) (hi:i<l.length):0<szK K:=by
 obtain ⟨K',rfl,_⟩:=h.lt hi
 have:=(a7_ l i).sz_pos
 simp only [szK];omega
def iA_ (l:List Nd) (_i:Nat) (K:List (D × Int)) (txt:ByteArray) (i':Nat) (K':List (D × Int)):Prop :=
 Rep l i' K'/\szK K'<szK K/\txt.size+3300*szK K'<=3300*szK K/\∀ ws acc,dH_ K ws acc=dH_ K' ws (acc++txt)
theorem kW_ (a:ByteArray):a++ByteArray.empty=a:=by simp
theorem Doc.leaf_ {l:List Nd} {x:D} (hd:Doc l x) {i:Nat} (hi:i<l.length) (hp:parts l[i].op=0):a7_ l i=.leaf l[i]:=by
 rcases hd.parts_ hi with ⟨_,h⟩|⟨h,_⟩|⟨h,_⟩
 ·exact h
 ·omega
 ·omega
theorem agX_ {l:List Nd} {x:D} (hd:Doc l x) {i:Nat} {K:List (D × Int)} {t:ByteArray} {n:Int} (hr:Rep l i K) (hi:i<l.length) (hnd:l[i]=⟨1,t,n⟩):∃ K',iA_ l i K t (b8_ l i) K':=by
 obtain ⟨K',rfl,hr'⟩:=hr.lt hi
 have hlf:=hd.leaf_ hi (by rw [hnd];rfl)
 have hone:=hd.one _ (List.getElem_mem hi)
 rw [hnd] at hone
 have hsz:=oN_ (d:=⟨1,t,n⟩) hone
 simp only at hsz
 refine ⟨K',hr',by rw [hlf];simp only [szK,D.sz];omega,by rw [hlf];simp only [szK,D.sz];omega,fun ws acc=>?_⟩
 rw [hlf,hnd]
 simp only [dH_,D.lay,if_true]
theorem agY_ {l:List Nd} {x:D} (hd:Doc l x) {i:Nat} {K:List (D × Int)} {t:ByteArray} {n:Int} (hr:Rep l i K) (hi:i<l.length) (hnd:l[i]=⟨5,t,n⟩):∃ K',iA_ l i K .empty (b8_ l i) K':=by
 obtain ⟨K',rfl,hr'⟩:=hr.lt hi
 have hlf:=hd.leaf_ hi (by rw [hnd];rfl)
 refine ⟨K',hr',by rw [hlf];simp only [szK,D.sz];omega,by rw [hlf];simp only [szK,D.sz,ByteArray.size_empty];omega,fun ws acc=>?_⟩
 rw [hlf,hnd]
 rfl
theorem p6_ {l:List Nd} {x:D} (hd:Doc l x) {i:Nat} {K:List (D × Int)} {op:Int} {t:ByteArray} {n:Int} (hr:Rep l i K) (hi:i<l.length) (hnd:l[i]=⟨op,t,n⟩) (ho:op=2∨op=3∨op=4) :
  ∃ K',iA_ l i K (⟨#[10]⟩++bO_ (bE_ l i).toNat) (b8_ l i) K':=by
 obtain ⟨K',rfl,hr'⟩:=hr.lt hi
 have hp0:parts l[i].op=0:=by rw [hnd];rcases ho with rfl|rfl|rfl <;> rfl
 have hlf:=hd.leaf_ hi hp0
 have hdb:=hd.deep_bd i hi
 have h4:=hd.len
 have hbz:(⟨#[10]⟩++bO_ (bE_ l i).toNat:ByteArray).size<=3300:=by
  rw [ByteArray.size_append]
  have e1:(⟨#[10]⟩:ByteArray).size=1:=rfl
  have e2:(bO_ (bE_ l i).toNat).size=(bE_ l i).toNat:=by simp [bO_,ByteArray.size]
  rw [e1,e2];omega
 refine ⟨K',hr',by rw [hlf];simp only [szK,D.sz];omega,by rw [hlf];simp only [szK,D.sz];omega,fun ws acc=>?_⟩
 rw [hlf,hnd]
 rcases ho with rfl|rfl|rfl <;> rfl
theorem agV_ {l:List Nd} {x:D} (hd:Doc l x) {i:Nat} {K:List (D × Int)} {t:ByteArray} {n:Int} (hr:Rep l i K) (hi:i<l.length) (hnd:l[i]=⟨6,t,n⟩):∃ K',iA_ l i K .empty (i+1) K':=by
 obtain ⟨K',rfl,hr'⟩:=hr.lt hi
 have h6:l[i].op=6:=by rw [hnd]
 have hp2:parts l[i].op=2:=by rw [hnd];rfl
 obtain ⟨_,_,hdo,_⟩:=hd.plan_bin hi hp2
 refine ⟨_,Rep.both hd hi h6 hr',by rw [hdo];simp only [szK,D.sz];omega,by rw [hdo];simp only [szK,D.sz,ByteArray.size_empty];omega,fun ws acc=>?_⟩
 rw [hdo,afJ_ h6,kW_]
theorem dr61 (h:P:=by
 have hp1:parts l[i].op=1:=by rw [hnd];rfl
 obtain ⟨_,hdo,_⟩:=hd.plan_un hi hp1
 refine ⟨_,Rep.un hd hi hp1 hr',by rw [hdo];simp only [szK,D.sz];omega,by rw [hdo];simp only [szK,D.sz,ByteArray.size_empty];omega,fun ws acc=>?_⟩
 rw [hdo,kW_]
 first
 |
  simp only [dH_,D.lay,h7,if_true]
  done
 |
  simp only [dH_,D.lay,h8]
  rfl):P:=h
theorem agW_ {l:List Nd} {x:D} (hd:Doc l x) {i:Nat} {K:List (D × Int)} {t:ByteArray} {n:Int} (hr:Rep l i K) (hi:i<l.length) (hnd:l[i]=⟨7,t,n⟩):∃ K',iA_ l i K .empty (i+1) K':=by
 obtain ⟨K',rfl,hr'⟩:=hr.lt hi
 have h7:l[i].op=7:=by rw [hnd]
 exact dr61
def rC_ (l:List Nd) (_i:Nat) (K:List (D × Int)) (c:Int) (txt:ByteArray) (i':Nat) (K':List (D × Int)):Prop :=
 Rep l i' K'/\szK K'<szK K/\txt.size+3300*szK K'<=3300*szK K/\∀ ws acc,dH_ K (c::ws) acc=dH_ K' ws (acc++txt)
theorem q9_ {l:List Nd} {x:D} (hd:Doc l x) {i:Nat} {K:List (D × Int)} {t:ByteArray} {n c:Int} (hr:Rep l i K) (hi:i<l.length) (hnd:l[i]=⟨9,t,n⟩) (hc:c=0∨c=1):∃ K',rC_ l i K c .empty (if c=0 then i+1 else bL_ l (i+1)) K':=by
 obtain ⟨K',rfl,hr'⟩:=hr.lt hi
 have h9:l[i].op=9:=by rw [hnd]
 have hp2:parts l[i].op=2:=by rw [hnd];rfl
 obtain ⟨_,_,hdo,_⟩:=hd.plan_bin hi hp2
 rcases hc with rfl|rfl
 ·refine ⟨_,Rep.either hd hi h9 hr',by rw [hdo];simp only [szK,D.sz];omega,by rw [hdo];simp only [szK,D.sz,ByteArray.size_empty];omega,fun ws acc=>?_⟩
  rw [hdo,kW_]
  simp only [dH_,D.lay,h9,if_true]
  rfl
 ·refine ⟨_,Rep.bin hd hi hp2 hr',by rw [hdo];simp only [szK,D.sz];omega,by rw [hdo];simp only [szK,D.sz,ByteArray.size_empty];omega,fun ws acc=>?_⟩
  rw [hdo,kW_]
  simp only [dH_,D.lay,h9]
  rfl
theorem ad9_ {l:List Nd} {x:D} (hd:Doc l x) {i:Nat} {K:List (D × Int)} {t:ByteArray} {n:Int} (hr:Rep l i K) (hi:i<l.length) (hnd:l[i]=⟨8,t,n⟩):∃ K',rC_ l i K 1 .empty (i+1) K':=by
 obtain ⟨K',rfl,hr'⟩:=hr.lt hi
 have h8:l[i].op=8:=by rw [hnd]
 exact dr61
theorem Doc.good_at {l:List Nd} {x:D} (hd:Doc l x) {i:Nat} (hi:i<l.length):(a7_ l i).good:=by
 obtain ⟨r,h1,_⟩:=hd.at_ hi
 intro d hdm
 have:d ∈ l.drop i:=by rw [h1];exact List.mem_append_left _ hdm
 exact hd.one d (List.mem_of_mem_drop this)
theorem uF_ {y:D}:y.good->∀ t,y.flat=some t->t.size<=20*y.sz:=by
 exact dr53
theorem agA_ {l:List Nd} {x:D} (hd:Doc l x) {i:Nat} {K:List (D × Int)} {t s:ByteArray} {n:Int} (hr:Rep l i K) (hi:i<l.length) (hnd:l[i]=⟨8,t,n⟩) (hf:(a7_ l (i+1)).flat=some s):∃ K',rC_ l i K 0 s (b8_ l i) K':=by
 obtain ⟨K',rfl,hr'⟩:=hr.lt hi
 have h8:l[i].op=8:=by rw [hnd]
 have hp1:parts l[i].op=1:=by rw [hnd];rfl
 obtain ⟨hil,hdo,_⟩:=hd.plan_un hi hp1
 have hsz:=uF_ (hd.good_at hil) s hf
 refine ⟨K',hr',by rw [hdo];simp only [szK,D.sz];omega,by rw [hdo];simp only [szK,D.sz];omega,fun ws acc=>?_⟩
 rw [hdo]
 simp only [dH_,D.lay,h8]
 rw [if_neg de_]
 simp only [if_true,hf]
def wC_ (x:D) (ws:List Int):Except Int ByteArray:=match x.lay 0 ws with
 | .error e=>.error e
 | .ok (s,[])=>.ok s
 | .ok (_,_::_)=>.error 2
def e0_ (ws:List Int):Bool:=ws.any fun c=>decide (c≠0/\c≠1)
end
section
def c8_:List (D × Int)->List (List Int)
 | []=>[[]]
 | (x,_)::K=>x.ways.flatMap fun u=>(c8_ K).map (u++·)
theorem vP_ (x:D) (dp:Int):c8_ [(x,dp)]=x.ways:=by
 simp only [c8_,List.map_cons,List.append_nil,List.map_nil]
 induction x.ways with
 | nil=>rfl
 | cons a r ih=>simp [ih]
theorem rW_ (f:List (List Int)):([[]]:List (List Int)).flatMap (fun u=>f.map (u++·))=f:=by simp
def rF_ (l:List Nd) (K:List (D × Int)) (i':Nat) (K':List (D × Int)):Prop:=Rep l i' K'/\szK K'<szK K/\c8_ K=c8_ K'
theorem jO_ {l:List Nd} {x:D} (hd:Doc l x) {i:Nat} {K:List (D × Int)} (hr:Rep l i K) (hi:i<l.length) (ho:parts l[i].op=0):∃ K',rF_ l K (b8_ l i) K':=by
 obtain ⟨K',rfl,hr'⟩:=hr.lt hi
 have hlf:=hd.leaf_ hi ho
 refine ⟨K',hr',by rw [hlf];simp only [szK,D.sz];omega, ?_⟩
 rw [hlf]
 simp only [c8_,D.ways]
 exact rW_ _
theorem q5_ (a b:List (List Int)) (f:List (List Int)):(a.flatMap (fun u=>b.map (u++·))).flatMap (fun u=>f.map (u++·))=a.flatMap (fun u=>(b.flatMap (fun v=>f.map (v++·))).map (u++·)):=by
 rw [List.flatMap_assoc]
 congr 1
 funext u
 rw [List.flatMap_map,List.map_flatMap]
 congr 1
 funext v
 rw [List.map_map]
 congr 1
 funext z
 simp
theorem ahI_ {l:List Nd} {x:D} (hd:Doc l x) {i:Nat} {K:List (D × Int)} (hr:Rep l i K) (hi:i<l.length) (h6:l[i].op=6):∃ K',rF_ l K (i+1) K':=by
 obtain ⟨K',rfl,hr'⟩:=hr.lt hi
 have hp2:parts l[i].op=2:=by rw [h6];rfl
 obtain ⟨_,_,hdo,_⟩:=hd.plan_bin hi hp2
 refine ⟨_,Rep.both hd hi h6 hr',by rw [hdo];simp only [szK,D.sz];omega, ?_⟩
 rw [hdo]
 simp only [c8_,D.ways,h6,if_true]
 exact q5_ _ _ _
theorem ahJ_ {l:List Nd} {x:D} (hd:Doc l x) {i:Nat} {K:List (D × Int)} (hr:Rep l i K) (hi:i<l.length) (h7:l[i].op=7):∃ K',rF_ l K (i+1) K':=by
 obtain ⟨K',rfl,hr'⟩:=hr.lt hi
 have hp1:parts l[i].op=1:=by rw [h7];rfl
 obtain ⟨_,hdo,_⟩:=hd.plan_un hi hp1
 refine ⟨_,Rep.un hd hi hp1 hr',by rw [hdo];simp only [szK,D.sz];omega, ?_⟩
 rw [hdo]
 simp only [c8_,D.ways,h7,if_true]
def rB_ (l:List Nd) (K:List (D × Int)) (ok0:Bool) (i0 i1:Nat) (K0 K1:List (D × Int)):Prop :=
 Rep l i0 K0/\Rep l i1 K1/\szK K0<szK K/\szK K1<szK K/\c8_ K=(if ok0=true then (c8_ K0).map (0::·) else [])++(c8_ K1).map (1::·)
theorem hM_ (c:Int) (a f:List (List Int)):(a.map (c::·)).flatMap (fun u=>f.map (u++·))=(a.flatMap (fun u=>f.map (u++·))).map (c::·):=by
 rw [List.flatMap_map,List.map_flatMap]
 congr 1
 funext u
 rw [List.map_map]
 rfl
theorem zR_ {l:List Nd} {x:D} (hd:Doc l x) {i:Nat} {K:List (D × Int)} (hr:Rep l i K) (hi:i<l.length) (h9:l[i].op=9):∃ K0 K1,rB_ l K true (i+1) (bL_ l (i+1)) K0 K1:=by
 obtain ⟨K',rfl,hr'⟩:=hr.lt hi
 have hp2:parts l[i].op=2:=by rw [h9];rfl
 obtain ⟨_,_,hdo,_⟩:=hd.plan_bin hi hp2
 refine ⟨_,_,Rep.either hd hi h9 hr',Rep.bin hd hi hp2 hr',by rw [hdo];simp only [szK,D.sz];omega,by rw [hdo];simp only [szK,D.sz];omega, ?_⟩
 rw [hdo]
 have h6:¬ l[i].op=6:=by omega
 simp only [c8_,D.ways,if_neg h6,if_true]
 rw [List.flatMap_append,hM_,hM_]
theorem ad7_ {l:List Nd} {x:D} (hd:Doc l x) {i:Nat} {K:List (D × Int)} (hr:Rep l i K) (hi:i<l.length) (h8:l[i].op=8):∃ K0 K1,rB_ l K (a7_ l (i+1)).flat.isSome (b8_ l i) (i+1) K0 K1:=by
 obtain ⟨K',rfl,hr'⟩:=hr.lt hi
 have hp1:parts l[i].op=1:=by rw [h8];rfl
 obtain ⟨_,hdo,_⟩:=hd.plan_un hi hp1
 refine ⟨_,_,hr',Rep.un hd hi hp1 hr',by rw [hdo];simp only [szK,D.sz];omega,by rw [hdo];simp only [szK,D.sz];omega, ?_⟩
 rw [hdo]
 have h7:¬ l[i].op=7:=by omega
 simp only [c8_,D.ways,if_neg h7]
 rw [List.flatMap_append,hM_]
 congr 1
 split
 ·simp
 ·rfl
theorem alC_ (K:List (D × Int)):c8_ K≠[]:=by
 induction K with
 | nil=>simp [c8_]
 | cons p K ih =>
  obtain ⟨x,dp⟩:=p
  simp only [c8_]
  intro h
  have:=D.ways_ne (x:=x)
  cases hx:x.ways with
  | nil=>exact this hx
  | cons u r =>
   rw [hx] at h
   simp at h
   exact ih h.1
end
section
def cW_ (a b:Nat × Nat):Bool:=decide (a.1<b.1∨(a.1=b.1/\a.2<b.2))
def dW_ (a b:Nat × Nat):Nat × Nat:=(a.1+b.1,a.2+b.2)
theorem u6_ {a b:Nat × Nat}:cW_ a b=true↔a.1<b.1∨(a.1=b.1/\a.2<b.2):=by simp [cW_]
theorem iO_ {a b:Nat × Nat}:cW_ a b=false↔b.1<a.1∨(b.1=a.1/\b.2<=a.2):=by
 simp only [cW_,decide_eq_false_iff_not];omega
theorem aeL_ (c a b:Nat × Nat):cW_ (dW_ c a) (dW_ c b)=cW_ a b:=by
 simp only [cW_,dW_]
 congr 1
 simp only [eq_iff_iff]
 omega
theorem u7_ (a:Nat × Nat):cW_ a a=false:=by simp [cW_]
def ovr (w:Nat):Nat->List UInt8->Nat
 | _,[]=>0
 | col,c::r=>if c=10 then ovr w 0 r else (if w<col+1 then 1 else 0)+ovr w (col+1) r
def lns:List UInt8->Nat
 | []=>0
 | c::r=>(if c=10 then 1 else 0)+lns r
def aK_:Nat->List UInt8->Nat
 | col,[]=>col
 | col,c::r=>if c=10 then aK_ 0 r else aK_ (col+1) r
def cst (w col:Nat) (s:List UInt8):Nat × Nat:=(ovr w col s,lns s)
theorem tI_ (w:Nat):∀ (a:List UInt8) (col:Nat) (b:List UInt8),ovr w col (a++b)=ovr w col a+ovr w (aK_ col a) b
 | [],col,b=>by simp [ovr,aK_]
 | c::r,col,b=>by
  simp only [List.cons_append,ovr,aK_]
  split
  ·exact tI_ w r 0 b
  ·rw [tI_ w r (col+1) b];omega
theorem tA_:∀ (a b:List UInt8),lns (a++b)=lns a+lns b
 | [],b=>by simp [lns]
 | c::r,b=>by simp only [List.cons_append,lns,tA_ r b];omega
theorem o9_:∀ (a:List UInt8) (col:Nat) (b:List UInt8),aK_ col (a++b)=aK_ (aK_ col a) b
 | [],col,b=>by simp [aK_]
 | c::r,col,b=>by
  simp only [List.cons_append,aK_]
  split
  ·exact o9_ r 0 b
  ·exact o9_ r (col+1) b
theorem pI_ (w col:Nat) (a b:List UInt8):cst w col (a++b)=dW_ (cst w col a) (cst w (aK_ col a) b):=by
 simp [cst,dW_,tI_,tA_]
def iN_ (s:List UInt8):Prop:=∀ c ∈ s,c≠10
theorem xX_ (w:Nat):∀ (s:List UInt8) (col:Nat),iN_ s->ovr w col s=(col+s.length-w)-(col-w)
 | [],col,_=>by simp [ovr]
 | c::r,col,h=>by
  have hc:c≠10:=h c si_
  have ih:=xX_ w r (col+1) (fun x hx=>h x (by simp [hx]))
  simp only [ovr,if_neg hc,ih,List.length_cons]
  split <;> omega
theorem xN_:∀ (s:List UInt8),iN_ s->lns s=0
 | [],_=>rfl
 | c::r,h=>by
  have hc:c≠10:=h c si_
  simp only [lns,if_neg hc,xN_ r (fun x hx=>h x (by simp [hx]))]
theorem qM_:∀ (s:List UInt8) (col:Nat),iN_ s->aK_ col s=col+s.length
 | [],col,_=>by simp [aK_]
 | c::r,col,h=>by
  have hc:c≠10:=h c si_
  simp only [aK_,if_neg hc,qM_ r (col+1) (fun x hx=>h x (by simp [hx])),List.length_cons]
  omega
theorem iQ_:∀ (s:List UInt8) (col:Nat),aK_ col s<=col+s.length
 | [],col=>by simp [aK_]
 | c::r,col=>by
  simp only [aK_,List.length_cons]
  split
  ·have:=iQ_ r 0;omega
  ·have:=iQ_ r (col+1);omega
theorem jM_ (w:Nat):∀ (s:List UInt8) (col:Nat),ovr w col s<=s.length
 | [],col=>by simp [ovr]
 | c::r,col=>by
  simp only [ovr,List.length_cons]
  split
  ·have:=jM_ w r 0;omega
  ·have:=jM_ w r (col+1);split <;> omega
theorem oJ_:∀ (s:List UInt8),lns s<=s.length
 | []=>by simp [lns]
 | c::r=>by
  simp only [lns,List.length_cons]
  have:=oJ_ r
  split <;> omega
end
section
def bY_ (f:List Int->Nat × Nat):List (List Int)->Option (List Int)
 | []=>none
 | u::r=>match bY_ f r with
  | none=>some u
  | some v=>if cW_ (f v) (f u)=true then some v else some u
theorem o5_ (f:List Int->Nat × Nat):∀ (a b:List (List Int)),bY_ f (a++b)=match bY_ f a,bY_ f b with
  | none,y=>y
  | x,none=>x
  | some u,some v=>if cW_ (f v) (f u)=true then some v else some u
 | [],b=>by simp [bY_]
 | u::r,b=>by
  simp only [List.cons_append,bY_,o5_ f r b]
  cases h1:bY_ f r with
  | none =>
   cases h2:bY_ f b with
   | none=>rfl
   | some v=>simp
  | some x =>
   cases h2:bY_ f b with
   | none =>
    simp only
    split <;> rfl
   | some v =>
    simp only
    by_cases p:cW_ (f v) (f x)=true
    ·simp only [if_pos p]
     by_cases q:cW_ (f x) (f u)=true
     ·simp only [if_pos q,if_pos p]
      have:cW_ (f v) (f u)=true:=by rw [u6_] at *;omega
      rw [if_pos this]
     ·simp only [if_neg q]
    ·simp only [if_neg p]
     by_cases q:cW_ (f x) (f u)=true
     ·simp only [if_pos q,if_neg p]
     ·simp only [if_neg q]
      have:¬ cW_ (f v) (f u)=true:=by
       rw [Bool.not_eq_true,iO_] at *;omega
      rw [if_neg this]
theorem o6_ (f:List Int->Nat × Nat) (g:List Int->List Int):∀ l:List (List Int),bY_ f (l.map g)=(bY_ (fun u=>f (g u)) l).map g
 | []=>rfl
 | u::r=>by
  simp only [List.map_cons,bY_,o6_ f g r]
  cases bY_ (fun u=>f (g u)) r with
  | none=>rfl
  | some v =>
   simp only [Option.map_some]
   split <;> rfl
theorem kX_ {f:List Int->Nat × Nat}:∀ {l:List (List Int)} {v:List Int},bY_ f l=some v->v ∈ l
 | [],_,h=>by simp [bY_] at h
 | u::r,v,h=>by
  simp only [bY_] at h
  split at h
  ·simp at h;simp [h]
  ·rename_i x hx
   split at h
   ·simp at h;subst h;exact List.mem_cons_of_mem _ (kX_ hx)
   ·simp at h;simp [h]
theorem rK_ {f:List Int->Nat × Nat}:∀ {l:List (List Int)},bY_ f l=none->l=[]
 | [],_=>rfl
 | u::r,h=>by
  simp only [bY_] at h
  split at h
  ·simp at h
  ·split at h <;> simp at h
theorem ab5_ {f:List Int->Nat × Nat} {l:List (List Int)} (h:l≠[]):∃ v,bY_ f l=some v/\v ∈ l:=by
 cases hb:bY_ f l with
 | none=>exact absurd (rK_ hb) h
 | some v=>exact ⟨v,rfl,kX_ hb⟩
theorem jC_ {f g:List Int->Nat × Nat} (c:Nat × Nat):∀ {l:List (List Int)},(∀ u ∈ l,f u=dW_ c (g u))->bY_ f l=bY_ g l
 | [],_=>rfl
 | u::r,h=>by
  have ih:=jC_ (l:=r) c (fun v hv=>h v (by simp [hv]))
  simp only [bY_,ih]
  cases hb:bY_ g r with
  | none=>rfl
  | some v=>simp only [h u si_,h v (List.mem_cons_of_mem _ (kX_ hb)),aeL_]
theorem q2_ {f:List Int->Nat × Nat}:∀ {l:List (List Int)} {v:List Int},bY_ f l=some v->∀ u ∈ l,cW_ (f u) (f v)=false
 | [],_,h=>by simp [bY_] at h
 | x::r,v,h=>by
  intro u hu
  simp only [bY_] at h
  split at h
  ·rename_i hn
   simp at h;subst h
   have:=rK_ hn;subst this
   simp at hu;subst hu;exact u7_ _
  ·rename_i y hy
   have ih:=q2_ hy
   split at h
   ·rename_i hl
    simp at h;subst h
    rcases List.mem_cons.1 hu with rfl|hu
    ·rw [u6_] at hl;rw [iO_];omega
    ·exact ih u hu
   ·rename_i hl
    simp at h;subst h
    rcases List.mem_cons.1 hu with rfl|hu
    ·exact u7_ _
    ·have:=ih u hu
     rw [Bool.not_eq_true,iO_] at hl;rw [iO_] at this ⊢;omega
def cI_ (K:List (D × Int)) (u:List Int):List UInt8:=match dH_ K u .empty with
 | .ok (s,_)=>s.data.toList
 | .error _=>[]
theorem kA_ (a b:ByteArray):(a++b).data.toList=a.data.toList++b.data.toList:=by
 simp
theorem n7_:∀ (K:List (D × Int)) (ws:List Int) (acc:ByteArray),dH_ K ws acc=match dH_ K ws .empty with
  | .error e=>.error e
  | .ok (s,r)=>.ok (acc++s,r)
 | [],ws,acc=>by simp [dH_]
 | (x,dp)::K,ws,acc=>by
  simp only [dH_]
  cases x.lay dp ws with
  | error e=>rfl
  | ok p =>
   obtain ⟨s,w'⟩:=p
   simp only
   rw [n7_ K w' (acc++s),n7_ K w' (.empty++s)]
   cases dH_ K w' .empty with
   | error e=>rfl
   | ok q =>
    obtain ⟨t,r⟩:=q
    simp [ByteArray.append_assoc]
theorem xG_:∀ {K:List (D × Int)} {u:List Int},u ∈ c8_ K->∃ s,dH_ K u .empty=.ok (s,[])
 | [],u,h=>by
  simp [c8_] at h;subst h
  exact ⟨_,rfl⟩
 | (x,dp)::K,u,h=>by
  simp only [c8_,List.mem_flatMap,List.mem_map] at h
  obtain ⟨a,ha,b,hb,rfl⟩:=h
  obtain ⟨s,hs⟩:=D.lay_way (dp:=dp) ha
  obtain ⟨t,ht⟩:=xG_ hb
  have h1:=D.lay_more (v:=b) hs
  simp only [dH_,h1]
  rw [List.nil_append,n7_,ht]
  exact ⟨_,rfl⟩
theorem yQ_ {K:List (D × Int)} {u:List Int} {s:ByteArray} {r:List Int} (h:dH_ K u .empty=.ok (s,r)):cI_ K u=s.data.toList:=by
 rw [cI_,h]
theorem f9_ {K K':List (D × Int)} {u u':List Int} {txt:ByteArray} (h:∀ acc,dH_ K u acc=dH_ K' u' (acc++txt)) (hu:u' ∈ c8_ K'):cI_ K u=txt.data.toList++cI_ K' u':=by
 obtain ⟨s,hs⟩:=xG_ hu
 have h1:=h .empty
 rw [n7_ K',hs] at h1
 rw [yQ_ h1,yQ_ hs,kA_,kA_]
 simp
def bG_ (w:Nat) (K:List (D × Int)) (col:Nat):List Int:=(bY_ (fun u=>cst w col (cI_ K u)) (c8_ K)).getD []
def bD_ (w:Nat) (K:List (D × Int)) (col:Nat):Nat × Nat:=cst w col (cI_ K (bG_ w K col))
theorem hV_ (w:Nat) (K:List (D × Int)) (col:Nat):bY_ (fun u=>cst w col (cI_ K u)) (c8_ K)=some (bG_ w K col):=by
 obtain ⟨v,hv,_⟩:=ab5_ (f:=fun u=>cst w col (cI_ K u)) (alC_ K)
 rw [bG_,hv];rfl
theorem fK_ (w:Nat) (K:List (D × Int)) (col:Nat):bG_ w K col ∈ c8_ K:=kX_ (hV_ w K col)
theorem wR_ (w col:Nat):bG_ w [] col=[]/\bD_ w [] col=(0,0):=by
 have h:bG_ w [] col=[]:=by
  have:=fK_ w [] col
  simpa [c8_] using this
 refine ⟨h, ?_⟩
 rw [bD_,h]
 rfl
theorem tX_ {l:List Nd} {i i':Nat} {K K':List (D × Int)} {txt:ByteArray} (h:iA_ l i K txt i' K') (hw:c8_ K=c8_ K') (w col:Nat) :
  bG_ w K col=bG_ w K' (aK_ col txt.data.toList)/\bD_ w K col=dW_ (cst w col txt.data.toList) (bD_ w K' (aK_ col txt.data.toList)):=by
 have key:∀ u ∈ c8_ K',cst w col (cI_ K u)=dW_ (cst w col txt.data.toList) (cst w (aK_ col txt.data.toList) (cI_ K' u)):=fun u hu=>by
  rw [f9_ (h.2.2.2 u) hu,pI_]
 have h1:bG_ w K col=bG_ w K' (aK_ col txt.data.toList):=by
  have:=hV_ w K col
  rw [hw,jC_ _ key,hV_] at this
  exact (Option.some.inj this).symm
 refine ⟨h1, ?_⟩
 rw [bD_,h1,key _ (fK_ _ _ _)]
 rfl
theorem tW_ {l:List Nd} {i0 i1:Nat} {K K0 K1:List (D × Int)} {t0 t1:ByteArray} {ok0:Bool} (hp:rB_ l K ok0 i0 i1 K0 K1)
  (h0:ok0=true->∀ ws acc,dH_ K (0::ws) acc=dH_ K0 ws (acc++t0)) (h1:∀ ws acc,dH_ K (1::ws) acc=dH_ K1 ws (acc++t1)) (w col:Nat) :
  let c0:=dW_ (cst w col t0.data.toList) (bD_ w K0 (aK_ col t0.data.toList))
  let c1:=dW_ (cst w col t1.data.toList) (bD_ w K1 (aK_ col t1.data.toList))
  (ok0=true/\cW_ c1 c0=false->bG_ w K col=0::bG_ w K0 (aK_ col t0.data.toList)/\bD_ w K col=c0) /\
  (ok0=false∨cW_ c1 c0=true->bG_ w K col=1::bG_ w K1 (aK_ col t1.data.toList)/\bD_ w K col=c1):=by
 intro c0 c1
 have k1:∀ u ∈ c8_ K1,cst w col (cI_ K (1::u))=dW_ (cst w col t1.data.toList) (cst w (aK_ col t1.data.toList) (cI_ K1 u)):=fun u hu=>by
  rw [f9_ (h1 u) hu,pI_]
 have b1:bY_ (fun u=>cst w col (cI_ K u)) ((c8_ K1).map (1::·))=some (1::bG_ w K1 (aK_ col t1.data.toList)):=by
  rw [o6_,jC_ _ k1,hV_];rfl
 have e1:cst w col (cI_ K (1::bG_ w K1 (aK_ col t1.data.toList)))=c1:=k1 _ (fK_ _ _ _)
 have hb:=hV_ w K col
 rw [hp.2.2.2.2,o5_,b1] at hb
 cases ok0 with
 | false =>
  simp only [Bool.false_eq_true,if_false,bY_] at hb
  have hb':=(Option.some.inj hb).symm
  refine ⟨fun h=>(by cases h.1),fun _=>⟨hb', ?_⟩⟩
  rw [bD_,hb',e1]
 | true =>
  have k0:∀ u ∈ c8_ K0,cst w col (cI_ K (0::u))=dW_ (cst w col t0.data.toList) (cst w (aK_ col t0.data.toList) (cI_ K0 u)):=fun u hu=>by
   rw [f9_ (h0 rfl u) hu,pI_]
  have b0:bY_ (fun u=>cst w col (cI_ K u)) ((c8_ K0).map (0::·))=some (0::bG_ w K0 (aK_ col t0.data.toList)):=by
   rw [o6_,jC_ _ k0,hV_];rfl
  have e0:cst w col (cI_ K (0::bG_ w K0 (aK_ col t0.data.toList)))=c0:=k0 _ (fK_ _ _ _)
  simp only [if_true,b0,e0,e1] at hb
  refine ⟨fun h=>?_,fun h=>?_⟩
  ·rw [h.2] at hb
   simp only [Bool.false_eq_true,if_false] at hb
   have hb':=(Option.some.inj hb).symm
   exact ⟨hb',by rw [bD_,hb',e0]⟩
  ·have h':cW_ c1 c0=true:=by
    rcases h with h|h
    ·cases h
    ·exact h
   rw [h'] at hb
   simp only [if_true] at hb
   have hb':=(Option.some.inj hb).symm
   exact ⟨hb',by rw [bD_,hb',e1]⟩
end
section
open Go.RowKit
theorem w1_ (n:Nat):(⟨(Lib.repeatL (⟨#[32]⟩:ByteArray).data.toList n).toArray⟩:ByteArray)=bO_ n:=by
 have h:Lib.repeatL [32] n=List.replicate n (32:UInt8):=by
  induction n with
  | zero=>rfl
  | succ n ih=>simp [Lib.repeatL,List.replicate_succ] at ih ⊢;try exact ih
 show (⟨(Lib.repeatL [32] n).toArray⟩:ByteArray)=_
 rw [h];rfl
theorem dr57 (h:P:=by
 obtain ⟨gn,gd,ge,gf,gi,cf,ci,hp⟩:=hp
 obtain ⟨b,off,op,t',n',rfl,hb,hnd',hts,d1,d2,d3⟩:=hl.node (Below.refl _ _) hk
 rw [hnd] at hnd'
 cases hnd'
 have h400:=hd.len
 have e0:=hp.c0
 have e1:=hp.c1
 have x1:=hp.nx k hk
 have g1:=hp.lp
 have g2:=hp.ln
 generalize b8_ l k=Nx at *
 have k6:(k:Int)<(l.length:Int):=by omega
 clear hp hl hd hnd
 go_enter Tryz.func159,Tryz.ntmps159
 go_wp2
 go_quiet (fail)
 go_wp2
 go_ret3
 exact ⟨rfl,aF_⟩):P:=h
theorem adA_ {l:List Nd} {x:D} (hd:Doc l x) {gp:Nat} {A:Option Addr} {c k:Nat} {t:ByteArray} {n:Int} (w:World) (hp:b9_ w gp A c l) (hl:Nds w w.heap.size A l) (hk:k<l.length) (hnd:l[k]=⟨1,t,n⟩) :
  Calls Tryz.prog 159 #[.pointer (some ⟨gp,0,none⟩),.int .i64 k] w (Ret w (.tuple #[.string t,.int .i64 (b8_ l k:Nat),.bool false])):=by
 exact dr57
theorem adB_ {l:List Nd} {x:D} (hd:Doc l x) {gp:Nat} {A:Option Addr} {c k:Nat} {t:ByteArray} {n:Int} (w:World) (hp:b9_ w gp A c l) (hl:Nds w w.heap.size A l) (hk:k<l.length) (hnd:l[k]=⟨5,t,n⟩) :
  Calls Tryz.prog 159 #[.pointer (some ⟨gp,0,none⟩),.int .i64 k] w (Ret w (.tuple #[.string .empty,.int .i64 (b8_ l k:Nat),.bool false])):=by
 exact dr57
theorem dr63 (h:P:=by
 have k1:IntKind.i64.wrap ((k:Int)+1)=(k:Int)+1:=IntWalk.i64_in _ om_
 have k2:(0:Int)<=(k:Int)+1:=by omega
 have k3:((k:Int)+1).toNat=k+1:=by omega
 first
 |
  go_enter Tryz.func162,Tryz.ntmps162
  go_wp2
  go_quiet (fail)
  go_wp2
  go_ret3
  exact ⟨rfl,aF_⟩
  done
 |
  clear hp hl hd hnd hp2
  go_enter Tryz.func162,Tryz.ntmps162
  go_wp2
  go_quiet (fail)
  go_wp2
  go_ret3
  exact ⟨rfl,aF_⟩
  done):P:=h
theorem t5_ (h:P:=by
 obtain ⟨gn,gd,ge,gf,gi,cf,ci,hp⟩:=hp
 obtain ⟨b,off,op',t',n',rfl,hb,hnd',hts,d1,d2,d3⟩:=hl.node (Below.refl _ _) hk
 rw [hnd] at hnd'
 cases hnd'
 have h400:=hd.len
 first
 |
  have e0:=hp.c0
  have g1:=hp.lp
  have k6:(k:Int)<(l.length:Int):=by omega
  clear hp hl hd hnd
  rcases ho with rfl|rfl
  all_goals
   go_enter Tryz.func159,Tryz.ntmps159
   go_wp2
   go_ret3
   exact ⟨rfl,aF_⟩
  done
 |
  have hp2:parts l[k].op=2:=by rw [hnd];rfl
  have hkl:k+1<l.length:=by have:=hd.plan_bin hk hp2;omega
  have e0:=hp.c0
  have e3:=hp.c3
  have x3:=hp.en (k+1) hkl
  have g1:=hp.lp
  have g2:=hp.le
  generalize bL_ l (k+1)=E at *
  have k6:(k:Int)<(l.length:Int):=by omega
  have k5:(k:Int)+1<(l.length:Int):=by omega
  clear hp hl hd hnd hp2
  rcases hch with rfl|rfl
  ·rw [if_pos rfl]
   go_enter Tryz.func162,Tryz.ntmps162
   go_wp2
   go_ret3
   exact ⟨rfl,aF_⟩
  ·rw [if_neg de_]
   exact dr63
  done
 |
  have hp2:parts l[k].op=1:=by rw [hnd];rfl
  have hkl:k+1<l.length:=(hd.plan_un hk hp2).1
  have e0:=hp.c0
  have e1:=hp.c1
  have e4:=hp.c4
  have e5:=hp.c5
  have x1:=hp.nx k hk
  have x4:=hp.fl (k+1) hkl
  have x5:=hp.ib (k+1) hkl
  have g1:=hp.lp
  have g2:=hp.ln
  have g4:=hp.lf
  have g5:=hp.li
  generalize aP_ l (k+1)=L at *
  generalize b8_ l k=Nx at *
  have k6:(k:Int)<(l.length:Int):=by omega
  have k5:(k:Int)+1<(l.length:Int):=by omega
  exact dr63
 |
  have e0:=hp.c0
  have g1:=hp.lp
  have k6:(k:Int)<(l.length:Int):=by omega
  clear hp hl hd hnd
  go_enter Tryz.func162,Tryz.ntmps162
  go_wp2
  go_ret3
  exact ⟨rfl,aF_⟩
  done
 |
  obtain ⟨hd0,hd1⟩:=hd.deep_bd k hk
  obtain ⟨dn,hdn⟩:∃ dn:Nat,bE_ l k=(dn:Int):=⟨(bE_ l k).toNat,by omega⟩
  have x2:=hp.dp k hk
  rw [hdn] at x2 hd1 ⊢
  rw [Int.toNat_natCast]
  have e0:=hp.c0
  have e1:=hp.c1
  have e2:=hp.c2
  have x1:=hp.nx k hk
  have g1:=hp.lp
  have g2:=hp.ln
  have g3:=hp.ld
  generalize b8_ l k=Nx at *
  have k6:(k:Int)<(l.length:Int):=by omega
  have hdn2:dn<=3200:=by omega
  have HR:=hd_ (fun w'=>Tryz.strings_Repeat ⟨#[32]⟩ dn w' om_ (by show 1*dn<=_;omega))
  rw [w1_] at HR
  clear hp hl hd hnd hdn hd0 hd1
  have hbz:(bO_ dn).size=dn:=by simp [bO_,ByteArray.size]
  have hbz2:(bO_ dn).size<=3200:=by omega
  clear hbz
  generalize bO_ dn=BL at *
  rcases ho with rfl|rfl|rfl
  ·go_enter Tryz.func159,Tryz.ntmps159
   go_wp2
   obtain ⟨wa,hwa⟩:∃ wa,wa=w.alloc (.cells #[.int .i64 2,.string t,.int .i64 n] 190):=⟨_,rfl⟩
   exact dr49
  ·go_enter Tryz.func159,Tryz.ntmps159
   go_wp2
   obtain ⟨wa,hwa⟩:∃ wa,wa=w.alloc (.cells #[.int .i64 3,.string t,.int .i64 n] 190):=⟨_,rfl⟩
   exact dr49
  ·go_enter Tryz.func159,Tryz.ntmps159
   go_wp2
   obtain ⟨wa,hwa⟩:∃ wa,wa=w.alloc (.cells #[.int .i64 4,.string t,.int .i64 n] 190):=⟨_,rfl⟩
   exact dr49):P:=h
theorem sD_ {l:List Nd} {x:D} (hd:Doc l x) {gp:Nat} {A:Option Addr} {c k:Nat} {op n:Int} {t:ByteArray} (w:World) (hp:b9_ w gp A c l) (hl:Nds w w.heap.size A l) (hk:k<l.length) (hnd:l[k]=⟨op,t,n⟩) (ho:op=6∨op=7) :
  Calls Tryz.prog 159 #[.pointer (some ⟨gp,0,none⟩),.int .i64 k] w (Ret w (.tuple #[.string .empty,.int .i64 ((k+1:Nat)),.bool false])):=by
 exact t5_
theorem oR_ {l:List Nd} {x:D} (hd:Doc l x) {gp:Nat} {A:Option Addr} {c k:Nat} {op n:Int} {t:ByteArray} (w:World) (hp:b9_ w gp A c l) (hl:Nds w w.heap.size A l) (hk:k<l.length) (hnd:l[k]=⟨op,t,n⟩) (ho:op=8∨op=9) :
  Calls Tryz.prog 159 #[.pointer (some ⟨gp,0,none⟩),.int .i64 k] w (Ret w (.tuple #[.string .empty,.int .i64 (k:Nat),.bool true])):=by
 exact t5_
theorem dr49 (h:P:=by
 rw [← hwa]
 have hBa:Below w.heap.size w wa:=by rw [hwa];exact aE_
 have a1:=(hBa.cell (p:=⟨gp,1,none⟩) g1).trans e1
 have a2:=(hBa.cell (p:=⟨gp,2,none⟩) g1).trans e2
 have b1:=(hBa.cell (p:=⟨gn,k,none⟩) g2).trans x1
 have b2:=(hBa.cell (p:=⟨gd,k,none⟩) g3).trans x2
 have g1a:=Nat.lt_of_lt_of_le g1 hBa.size
 have g2a:=Nat.lt_of_lt_of_le g2 hBa.size
 have g3a:=Nat.lt_of_lt_of_le g3 hBa.size
 clear hwa e0 e1 e2 x1 x2 d1 d2 d3
 have hcat:∀ w',(Op.stringOp .add ⟨#[10]⟩ BL).run Tryz.prog w'=.ok (.string (⟨#[10]⟩++BL)) w':=fun w'=>run_string_add_sum w' ⟨#[10]⟩ BL (by show 1+BL.size<=_;omega)
 go_region_held3 (fun w'=>w'.cell? ⟨gp,1,none⟩=some (.slice (some ⟨gn,0,none⟩) l.length l.length)/\w'.cell? ⟨gp,2,none⟩=some (.slice (some ⟨gd,0,none⟩) l.length l.length)/\w'.cell? ⟨gn,k,none⟩=some (.int .i64 (Nx:Nat))/\w'.cell? ⟨gd,k,none⟩=some (.int .i64 (dn:Nat)))
  (first|exact ⟨a1,a2,b1,b2⟩|exact ⟨(hBj.cell (p:=⟨gp,1,none⟩) g1a).trans a1,(hBj.cell (p:=⟨gp,2,none⟩) g1a).trans a2,(hBj.cell (p:=⟨gn,k,none⟩) g2a).trans b1,(hBj.cell (p:=⟨gd,k,none⟩) g3a).trans b2⟩)
  (first|(go_at_call 193;refine (HR.out _).mono ?_;rintro e w3 ⟨rfl,hBj⟩))
 go_wp2
 go_ret3
 exact ⟨rfl,hBa.trans ((bR_ hBj).mono hBa.size)⟩):P:=h
theorem nJ_ {l:List Nd} {x:D} (hd:Doc l x) {gp:Nat} {A:Option Addr} {c k:Nat} {op n:Int} {t:ByteArray} (w:World) (hp:b9_ w gp A c l) (hl:Nds w w.heap.size A l) (hk:k<l.length) (hnd:l[k]=⟨op,t,n⟩) (ho:op=2∨op=3∨op=4) :
  Calls Tryz.prog 159 #[.pointer (some ⟨gp,0,none⟩),.int .i64 k] w (Ret w (.tuple #[.string (⟨#[10]⟩++bO_ (bE_ l k).toNat),.int .i64 (b8_ l k:Nat),.bool false])):=by
 exact t5_
theorem nX_ {l:List Nd} {x:D} (hd:Doc l x) {gp:Nat} {A:Option Addr} {c k:Nat} {t:ByteArray} {n:Int} (w:World) (ch:Int) (hch:ch=0∨ch=1) (hp:b9_ w gp A c l) (hl:Nds w w.heap.size A l) (hk:k<l.length) (hnd:l[k]=⟨9,t,n⟩) :
  Calls Tryz.prog 162 #[.pointer (some ⟨gp,0,none⟩),.int .i64 k,.int .i64 ch] w (Ret w (.tuple #[.string .empty,.int .i64 ((if ch=0 then k+1 else bL_ l (k+1):Nat)),.bool true])):=by
 exact t5_
theorem z8_ {l:List Nd} {x:D} (hd:Doc l x) {gp:Nat} {A:Option Addr} {c k:Nat} {t:ByteArray} {n:Int} (w:World) (hp:b9_ w gp A c l) (hl:Nds w w.heap.size A l) (hk:k<l.length) (hnd:l[k]=⟨8,t,n⟩) :
  Calls Tryz.prog 162 #[.pointer (some ⟨gp,0,none⟩),.int .i64 k,.int .i64 0] w (Ret w (.tuple #[.string (aP_ l (k+1)).1,.int .i64 (b8_ l k:Nat),.bool (aP_ l (k+1)).2])):=by
 exact t5_
theorem wX_ {l:List Nd} {x:D} (hd:Doc l x) {gp:Nat} {A:Option Addr} {c k:Nat} {t:ByteArray} {n:Int} (w:World) (hp:b9_ w gp A c l) (hl:Nds w w.heap.size A l) (hk:k<l.length) (hnd:l[k]=⟨8,t,n⟩) :
  Calls Tryz.prog 162 #[.pointer (some ⟨gp,0,none⟩),.int .i64 k,.int .i64 1] w (Ret w (.tuple #[.string .empty,.int .i64 ((k+1:Nat)),.bool true])):=by
 exact t5_
def PTxt (t:ByteArray):Prop:=iN_ t.data.toList∨∃ r,iN_ r/\t=⟨(10::r).toArray⟩
theorem aeF_ (n:Nat):iN_ (bO_ n).data.toList:=by
 intro c hc
 simp [bO_] at hc
 rw [hc.2];decide
theorem oT_ (n:Nat):PTxt (⟨#[10]⟩++bO_ n):=by
 refine .inr ⟨(bO_ n).data.toList,aeF_ n, ?_⟩
 apply ByteArray.ext
 apply Array.ext'
 simp
theorem k6_:PTxt .empty:=.inl (by intro c hc;simp at hc)
theorem hB_ {l:List Nd} {i i':Nat} {K K1 K2:List (D × Int)} {txt:ByteArray} (h1:iA_ l i K txt i' K1) (h2:rF_ l K i' K2):iA_ l i K txt i' K1/\c8_ K=c8_ K1:=by
 have:=h1.1.uniq h2.1
 subst this
 exact ⟨h1,h2.2.2⟩
theorem t0_ {l:List Nd} {x:D} (hd:Doc l x) {gp:Nat} {A:Option Addr} {c i:Nat} {K:List (D × Int)} (hr:Rep l i K) (hi:i<l.length) (ho:l[i].op≠8/\l[i].op≠9) :
  ∃ (txt:ByteArray) (nx:Nat) (K':List (D × Int)),iA_ l i K txt nx K'/\c8_ K=c8_ K'/\PTxt txt/\∀ w,b9_ w gp A c l->Nds w w.heap.size A l->Calls Tryz.prog 159 #[.pointer (some ⟨gp,0,none⟩),.int .i64 i] w (Ret w (.tuple #[.string txt,.int .i64 (nx:Nat),.bool false])):=by
 obtain ⟨op,t,n,hnd⟩:∃ op t n,l[i]=Nd.mk op t n:=⟨_,_,_,rfl⟩
 rcases hd.ops hi hnd with rfl|rfl|rfl|rfl|rfl|rfl|rfl|rfl|rfl
 ·obtain ⟨K',h⟩:=jO_ hd hr hi (by rw [hnd];rfl)
  obtain ⟨K1,h1⟩:=agX_ hd hr hi hnd
  obtain ⟨g1,g2⟩:=hB_ h1 h
  refine ⟨_,_,K1,g1,g2,.inl ?_,fun w hp hl=>adA_ hd w hp hl hi hnd⟩
  have:=v1_ (hd.one l[i] (List.getElem_mem hi)) (by rw [hnd])
  rw [hnd] at this
  exact this
 ·obtain ⟨K',h⟩:=jO_ hd hr hi (by rw [hnd];rfl)
  obtain ⟨K1,h1⟩:=p6_ hd hr hi hnd (.inl rfl)
  obtain ⟨g1,g2⟩:=hB_ h1 h
  exact ⟨_,_,K1,g1,g2,oT_ _,fun w hp hl=>nJ_ hd w hp hl hi hnd (.inl rfl)⟩
 ·obtain ⟨K',h⟩:=jO_ hd hr hi (by rw [hnd];rfl)
  obtain ⟨K1,h1⟩:=p6_ hd hr hi hnd (.inr (.inl rfl))
  obtain ⟨g1,g2⟩:=hB_ h1 h
  exact ⟨_,_,K1,g1,g2,oT_ _,fun w hp hl=>nJ_ hd w hp hl hi hnd (.inr (.inl rfl))⟩
 ·obtain ⟨K',h⟩:=jO_ hd hr hi (by rw [hnd];rfl)
  obtain ⟨K1,h1⟩:=p6_ hd hr hi hnd (.inr (.inr rfl))
  obtain ⟨g1,g2⟩:=hB_ h1 h
  exact ⟨_,_,K1,g1,g2,oT_ _,fun w hp hl=>nJ_ hd w hp hl hi hnd (.inr (.inr rfl))⟩
 ·obtain ⟨K',h⟩:=jO_ hd hr hi (by rw [hnd];rfl)
  obtain ⟨K1,h1⟩:=agY_ hd hr hi hnd
  obtain ⟨g1,g2⟩:=hB_ h1 h
  exact ⟨_,_,K1,g1,g2,k6_,fun w hp hl=>adB_ hd w hp hl hi hnd⟩
 ·obtain ⟨K',h⟩:=ahI_ hd hr hi (by rw [hnd])
  obtain ⟨K1,h1⟩:=agV_ hd hr hi hnd
  obtain ⟨g1,g2⟩:=hB_ h1 h
  exact ⟨_,_,K1,g1,g2,k6_,fun w hp hl=>sD_ hd w hp hl hi hnd (.inl rfl)⟩
 ·obtain ⟨K',h⟩:=ahJ_ hd hr hi (by rw [hnd])
  obtain ⟨K1,h1⟩:=agW_ hd hr hi hnd
  obtain ⟨g1,g2⟩:=hB_ h1 h
  exact ⟨_,_,K1,g1,g2,k6_,fun w hp hl=>sD_ hd w hp hl hi hnd (.inr rfl)⟩
 ·exact absurd (by rw [hnd]) ho.1
 ·exact absurd (by rw [hnd]) ho.2
def wL_ (K:List (D × Int)) (c:Int) (t:ByteArray) (K':List (D × Int)):Prop:=iN_ t.data.toList/\t.size+3300*szK K'<=3300*szK K/\∀ ws acc,dH_ K (c::ws) acc=dH_ K' ws (acc++t)
theorem lQ_ {l:List Nd} {i i':Nat} {K K1 K2:List (D × Int)} {c:Int} {t:ByteArray} (ht:iN_ t.data.toList) (h:rC_ l i K c t i' K1) (hr:Rep l i' K2):wL_ K c t K2:=by
 have:=h.1.uniq hr
 subst this
 exact ⟨ht,h.2.2⟩
theorem qZ_:iN_ ByteArray.empty.data.toList:=by intro c hc;simp at hc
theorem qK_ {l:List Nd} {x:D} (hd:Doc l x) {gp:Nat} {A:Option Addr} {c i:Nat} {K:List (D × Int)} (hr:Rep l i K) (hi:i<l.length) (ho:l[i].op=8∨l[i].op=9) :
  ∃ (t0:ByteArray) (ok0:Bool) (i0 i1:Nat) (K0 K1:List (D × Int)),rB_ l K ok0 i0 i1 K0 K1/\(ok0=true->wL_ K 0 t0 K0)/\wL_ K 1 .empty K1 /\
   (∀ w,b9_ w gp A c l->Nds w w.heap.size A l->Calls Tryz.prog 159 #[.pointer (some ⟨gp,0,none⟩),.int .i64 i] w (Ret w (.tuple #[.string .empty,.int .i64 (i:Nat),.bool true]))) /\
   (∀ w,b9_ w gp A c l->Nds w w.heap.size A l->Calls Tryz.prog 162 #[.pointer (some ⟨gp,0,none⟩),.int .i64 i,.int .i64 0] w (Ret w (.tuple #[.string t0,.int .i64 (i0:Nat),.bool ok0]))) /\
   (∀ w,b9_ w gp A c l->Nds w w.heap.size A l->Calls Tryz.prog 162 #[.pointer (some ⟨gp,0,none⟩),.int .i64 i,.int .i64 1] w (Ret w (.tuple #[.string .empty,.int .i64 (i1:Nat),.bool true]))):=by
 obtain ⟨op,t,n,hnd⟩:∃ op t n,l[i]=Nd.mk op t n:=⟨_,_,_,rfl⟩
 rw [hnd] at ho
 rcases ho with h8|h9
 ·simp only at h8
  subst h8
  obtain ⟨K0,K1,h⟩:=ad7_ hd hr hi (by rw [hnd])
  have he:(aP_ l (i+1)).2=(a7_ l (i+1)).flat.isSome:=by
   rw [aP_]
   cases (a7_ l (i+1)).flat <;> rfl
  obtain ⟨K3,h3⟩:=ad9_ hd hr hi hnd
  refine ⟨(aP_ l (i+1)).1,(a7_ l (i+1)).flat.isSome,b8_ l i,i+1,K0,K1,h,fun hok=>?_,lQ_ qZ_ h3 h.2.1,fun w hp hl=>oR_ hd w hp hl hi hnd (.inl rfl),fun w hp hl=>?_,fun w hp hl=>wX_ hd w hp hl hi hnd⟩
  ·cases hfl:(a7_ l (i+1)).flat with
   | none=>rw [hfl] at hok;cases hok
   | some s =>
    obtain ⟨K2,h2⟩:=agA_ hd hr hi hnd hfl
    have hls:(aP_ l (i+1)).1=s:=by rw [aP_,hfl];rfl
    rw [hls]
    have hlt:i+1<l.length:=(hd.plan_un hi (by rw [hnd];rfl)).1
    exact lQ_ (D.flat_no (hd.good_at hlt) hfl) h2 h.1
  ·rw [← he]
   exact z8_ hd w hp hl hi hnd
 ·simp only at h9
  subst h9
  obtain ⟨K0,K1,h⟩:=zR_ hd hr hi (by rw [hnd])
  obtain ⟨K2,h2⟩:=q9_ hd hr hi hnd (c:=0) (.inl rfl)
  obtain ⟨K3,h3⟩:=q9_ hd hr hi hnd (c:=1) (.inr rfl)
  exact ⟨.empty,true,i+1,bL_ l (i+1),K0,K1,h,fun _=>lQ_ qZ_ h2 h.1,lQ_ qZ_ h3 h.2.1,fun w hp hl=>oR_ hd w hp hl hi hnd (.inr rfl),fun w hp hl=>nX_ hd w 0 (.inl rfl) hp hl hi hnd,fun w hp hl=>nX_ hd w 1 (.inr rfl) hp hl hi hnd⟩
end
section
open Go.RowKit Go.Maps Go.ChangeMaps
section
variable {P:Program} {k:TypeId} {w w':World} {b:Nat}
def dL_ (P:Program) (k:TypeId) (f:Value->Option Value) (b:Nat) (w:World):Prop :=
 ∃ es clock,w.heap[b]?=some (.map es clock)/\(∀ e ∈ es.toList,(∃ l,keyOf P k e.key=some l)/\f e.key=some e.val)/\(∀ key v,f key=some v->∃ e ∈ es.toList,e.key=key)/\(es.toList.map (·.key)).Pairwise (·≠·)
theorem ajD_ {l:List MapEntry} {j:Nat} {e:MapEntry} (h:l[j]?=some e):(l.map (·.key)).set j e.key=l.map (·.key):=by
 refine List.ext_getElem si_ (fun i h1 h2=>?_)
 rw [List.getElem_set]
 split
 ·rename_i hij
  subst hij
  have hj:j<l.length:=(List.getElem?_eq_some_iff.1 h).1
  rw [List.getElem?_eq_getElem hj] at h
  simp [Option.some.inj h]
 ·rfl
theorem afD_ {l:List MapEntry} (h:(l.map (·.key)).Pairwise (·≠·)) {i j:Nat} {a b:MapEntry} (hi:l[i]?=some a) (hj:l[j]?=some b) (hk:a.key=b.key):i=j:=by
 have hil:=(List.getElem?_eq_some_iff.1 hi)
 have hjl:=(List.getElem?_eq_some_iff.1 hj)
 obtain ⟨hi1,hi2⟩:=hil
 obtain ⟨hj1,hj2⟩:=hjl
 have hpw:=List.pairwise_iff_getElem.1 h
 rcases Nat.lt_trichotomy i j with hlt|he|hlt
 ·have:=hpw i j (by simpa using hi1) (by simpa using hj1) hlt
  simp only [List.getElem_map] at this
  rw [hi2,hj2] at this
  exact absurd hk this
 ·exact he
 ·have:=hpw j i (by simpa using hj1) (by simpa using hi1) hlt
  simp only [List.getElem_map] at this
  rw [hi2,hj2] at this
  exact absurd hk.symm this
theorem dL_.made (w:World):dL_ P k (fun _=>none) w.heap.size (w.alloc (.map #[] 0)) :=
 ⟨#[],0,(MapKept.heap_alloc w _).1,by simp,by simp,by simp⟩
theorem dL_.lt {f:Value->Option Value} (h:dL_ P k f b w):b<w.heap.size:=by
 obtain ⟨es,clock,hb,_⟩:=h
 exact (Array.getElem?_eq_some_iff.1 hb).1
theorem dL_.of_block {f:Value->Option Value} (h:dL_ P k f b w) (hb:w'.heap[b]?=w.heap[b]?):dL_ P k f b w':=by
 obtain ⟨es,clock,h1,h2⟩:=h
 exact ⟨es,clock,hb.trans h1,h2⟩
theorem dL_.kept {f:Value->Option Value} {row:Option Nat} (h:dL_ P k f b w) (hg:w.grownBy w' row) (hne:some b≠row):dL_ P k f b w':=h.of_block (hg.block b h.lt hne)
theorem dL_.below {f:Value->Option Value} (h:dL_ P k f b w) (hb:Below w.heap.size w w'):dL_ P k f b w':=h.of_block (hb.block b h.lt)
theorem dL_.look {f:Value->Option Value} (h:dL_ P k f b w) (K:Keyed P k) {t e:TypeId} (ht:P.underlying t=some (.map k e)) {z:Value} (hz:(zeroValue e).run P w=.ok z w) {key:Value} {kl:Lit} (hkey:keyOf P k key=some kl) :
  (Instr.lookup t (.map (some b)) key true).run P w=.ok (.tuple #[(f key).getD z,.bool (f key).isSome]) w:=by
 obtain ⟨es,clock,hb,h1,h2,h3⟩:=h
 rcases K.find w hkey es.toList (fun e he=>(h1 e he).1) with ⟨hf,hn⟩|⟨j,e0,hf,hj,hk0⟩
 ·have hno:f key=none:=by
   cases hfk:f key with
   | none=>rfl
   | some v =>
    obtain ⟨e,he,hek⟩:=h2 key v hfk
    exact absurd hek (hn e he)
  rw [hno]
  simp [Instr.lookup,run_underlying ht,MapKept.run_getObj_map hb,K.check w _ hkey,hf,hz,Result.andThen]
 ·have hm:=List.mem_of_getElem? hj
  have hv:=(h1 e0 hm).2
  rw [hk0] at hv
  rw [hv]
  simp [Instr.lookup,run_underlying ht,MapKept.run_getObj_map hb,K.check w _ hkey,hf,Result.andThen]
open Classical in
noncomputable def hH_ (f:Value->Option Value) (key val:Value):Value->Option Value:=fun x=>if x=key then some val else f x
theorem oU_ (f:Value->Option Value) (key val:Value):hH_ f key val key=some val:=by simp [hH_]
theorem k7_ (f:Value->Option Value) {key x:Value} (val:Value) (h:x≠key):hH_ f key val x=f x:=by simp [hH_,h]
theorem oV_ {f:Value->Option Value} {key val x v:Value} (h:hH_ f key val x=some v):(x=key/\v=val)∨f x=some v:=by
 unfold hH_ at h
 split at h
 ·rename_i hx
  exact .inl ⟨hx,(Option.some.inj h).symm⟩
 ·exact .inr h
theorem dL_.store {f:Value->Option Value} (h:dL_ P k f b w) (K:Keyed P k) {t e:TypeId} (ht:P.underlying t=some (.map k e)) {key:Value} {kl:Lit} (hkey:keyOf P k key=some kl) (val:Value) :
  ∃ o,∀ W:World,W.heap[b]?=w.heap[b]?->(Instr.mapUpdate t (.map (some b)) key val).run P W=.ok () (setBlock W b o)/\dL_ P k (hH_ f key val) b (setBlock W b o)/\W.grownBy (setBlock W b o) (some b):=by
 obtain ⟨es,clock,hb0,h1,h2,h3⟩:=h
 have grown:∀ (W:World) o,W.heap[b]?=some (.map es clock)->W.grownBy (setBlock W b o) (some b):=fun W o hb=>⟨rfl,rfl,rfl,by simp [setBlock],fun i _ hi=>heap_setBlock_other hb _ (fun e=>hi (by rw [e]))⟩
 have same:(∀ W:World,(Instr.findKey k key es.toList).run P W=.ok none W)/\(∀ e ∈ es.toList,e.key≠key)∨∃ j e,(∀ W:World,(Instr.findKey k key es.toList).run P W=.ok (some (j,e.val)) W)/\es.toList[j]?=some e/\e.key=key:=by
  rcases K.find w hkey es.toList (fun e he=>(h1 e he).1) with ⟨hf,hn⟩|⟨j,e0,hf,hj,hk0⟩
  ·refine .inl ⟨fun W=>?_,hn⟩
   rcases K.find W hkey es.toList (fun e he=>(h1 e he).1) with ⟨hf',_⟩|⟨j,e0,_,hj,hk0⟩
   ·exact hf'
   ·exact absurd hk0 (hn e0 (List.mem_of_getElem? hj))
  ·refine .inr ⟨j,e0,fun W=>?_,hj,hk0⟩
   rcases K.find W hkey es.toList (fun e he=>(h1 e he).1) with ⟨_,hn'⟩|⟨j',e0',hf',hj',hk0'⟩
   ·exact absurd hk0 (hn' e0 (List.mem_of_getElem? hj))
   ·have hjj:j=j':=afD_ h3 hj hj' (hk0.trans hk0'.symm)
    subst hjj
    rw [hj] at hj'
    cases hj'
    exact hf'
 rcases same with ⟨hf,hn⟩|⟨j,e0,hf,hj,hk0⟩
 ·refine ⟨.map (es.push ⟨key,val,clock⟩) (clock+1),fun W hW=>?_⟩
  have hb:=hW.trans hb0
  refine ⟨?_,⟨_,_,heap_setBlock_same hb _, ?_, ?_, ?_⟩,grown W _ hb⟩
  ·have hfW:=hf W
   simp [Instr.mapUpdate,run_underlying ht,MapKept.run_getObj_map hb,K.check W false hkey,hfW,MapKept.run_setObj_map _ hb,Result.andThen,setBlock]
  ·intro e he
   simp only [Array.toList_push,List.mem_append,List.mem_singleton] at he
   rcases he with he|rfl
   ·exact ⟨(h1 e he).1,by rw [k7_ _ _ (hn e he)];exact (h1 e he).2⟩
   ·exact ⟨⟨kl,hkey⟩,oU_ _ _ _⟩
  ·intro x v hx
   rcases oV_ hx with ⟨rfl,rfl⟩|hx
   ·exact ⟨⟨x,v,clock⟩,by simp,rfl⟩
   ·obtain ⟨e,he,hek⟩:=h2 x v hx
    exact ⟨e,by simp only [Array.toList_push,List.mem_append];exact .inl he,hek⟩
  ·rw [Array.toList_push,List.map_append,List.pairwise_append]
   refine ⟨h3,by simp,fun a ha b hb=>?_⟩
   obtain ⟨e,he,rfl⟩:=List.mem_map.1 ha
   simp at hb
   rw [hb]
   exact hn e he
 ·have hje:es[j]?=some e0:=by simpa using hj
  have hjl:j<es.size:=(Array.getElem?_eq_some_iff.1 hje).1
  have hlist:(es.modify j (fun e'=>{ e' with key:=key,val:=val })).toList=es.toList.set j { e0 with key:=key,val:=val }:=by rw [Array.toList_modify,modify_eq_set _ _ _ _ hj]
  refine ⟨.map (es.modify j (fun e'=>{ e' with key:=key,val:=val })) clock,fun W hW=>?_⟩
  have hb:=hW.trans hb0
  refine ⟨?_,⟨_,_,heap_setBlock_same hb _, ?_, ?_, ?_⟩,grown W _ hb⟩
  ·have hfW:=hf W
   simp [Instr.mapUpdate,run_underlying ht,MapKept.run_getObj_map hb,K.check W false hkey,hfW,hje,hk0,K.stays W hkey,MapKept.run_setObj_map _ hb,Result.andThen,setBlock]
  ·intro e he
   rw [hlist] at he
   obtain ⟨i,hi,hie⟩:=List.getElem_of_mem he
   rw [List.getElem_set] at hie
   split at hie
   ·subst hie
    exact ⟨⟨kl,hkey⟩,oU_ _ _ _⟩
   ·rename_i hij
    have hi':i<es.toList.length:=by simpa using hi
    have hm:e ∈ es.toList:=hie▸List.getElem_mem hi'
    refine ⟨(h1 e hm).1, ?_⟩
    rw [k7_ _ _ (fun hek=>?_)]
    ·exact (h1 e hm).2
    ·have hj':j<es.toList.length:=by simpa using hjl
     have e0j:es.toList[j]=e0:=by rw [List.getElem?_eq_getElem hj'] at hj;exact Option.some.inj hj
     have hpw:=List.pairwise_iff_getElem.1 h3
     rcases Nat.lt_or_gt_of_ne hij with hlt|hlt
     ·have:=hpw j i (by simpa using hj') (by simpa using hi') hlt
      simp only [List.getElem_map] at this
      rw [e0j,hie,hk0,hek] at this
      exact this rfl
     ·have:=hpw i j (by simpa using hi') (by simpa using hj') hlt
      simp only [List.getElem_map] at this
      rw [e0j,hie,hk0,hek] at this
      exact this rfl
  ·intro x v hx
   rw [hlist]
   by_cases hxk:x=key
   ·subst hxk
    exact ⟨⟨x,val,e0.born⟩,List.mem_iff_getElem.2 ⟨j,by simpa using hjl,by simp⟩,rfl⟩
   ·have hx':f x=some v:=by rw [k7_ _ _ hxk] at hx;exact hx
    obtain ⟨e,he,hek⟩:=h2 x v hx'
    obtain ⟨i,hi,hie⟩:=List.getElem_of_mem he
    refine ⟨e,List.mem_iff_getElem.2 ⟨i,by simpa using hi, ?_⟩,hek⟩
    rw [List.getElem_set]
    split
    ·rename_i hij
     subst hij
     rw [List.getElem?_eq_getElem hi] at hj
     cases hj
     rw [hie] at hk0
     exact absurd (hek.symm.trans hk0) hxk
    ·exact hie
  ·rw [hlist,List.map_set,← hk0,ajD_ hj]
   exact h3
end
end
section
open Go.RowKit Go.Maps
theorem ajF_:laidOutB Tryz.prog=true:=by kernel_rfl
theorem apJ_:(173:TypeId)<Tryz.prog.types.size:=of_decide_eq_true kr_
theorem akE_:(match Tryz.prog.underlying 173 with|some (.array _ _)|some (.struct _)=>true|_=>false)=true:=by kernel_rfl
theorem pX_:Keyed Tryz.prog 173:=Keyed.of_law (deep_law_laid ajF_ (m:=2) om_ apJ_ kr_ akE_)
theorem akF_ (w:World):(zeroValue 170).run Tryz.prog w=.ok (.agg #[.int .i64 0,.int .i64 0,.int .i64 0]) w:=by kernel_rfl
theorem agS_:Tryz.prog.types.size=359:=by kernel_rfl
theorem aa2_:Tryz.prog.keyType 173=true:=by kernel_rfl
theorem vH_:Tryz.prog.cellsOf 173=2:=by kernel_rfl
theorem af9_ {n:Nat} (h:n<=9000000000000000000):(Lit.int .i64 (n:Int)).wf=true:=by
 exact WalkArith.wf_i64 om_
def cM_ (i col:Nat):Value:=.agg #[.int .i64 (i:Nat),.int .i64 (col:Nat)]
def eG_ (c:Nat × Nat) (k:Int):Value:=.agg #[.int .i64 (c.1:Nat),.int .i64 (c.2:Nat),.int .i64 k]
theorem r4_ {i col:Nat} (hi:i<=9000000000000000000) (hc:col<=9000000000000000000):∃ kl,keyOf Tryz.prog 173 (cM_ i col)=some kl:=by
 have h1:=af9_ hi
 have h2:=af9_ hc
 obtain ⟨m,hm⟩:∃ m,Tryz.prog.types.size=m+1:=⟨_,agS_⟩
 unfold keyOf cM_
 simp only [Tryz.underlying173]
 rw [if_pos (by simp [aa2_,Value.formed,Tryz.underlying173];exact vH_.symm),hm]
 unfold Program.keyLits
 simp only [Tryz.underlying173,Value.cells]
 have k0:Tryz.prog.cellsOf 3=1:=by kernel_rfl
 rw [if_pos ⟨vH_.symm,by simp⟩]
 simp [k0,Program.keyLits,Tryz.underlying3,h1,h2]
theorem agT_ {i col i' col':Nat} (h:cM_ i col=cM_ i' col'):i=i'/\col=col':=by
 simp [cM_] at h
 omega
def c3_ (l:List Nd) (i:Nat) (u:List Int):Int:=if h:i<l.length then (if l[i].op=8∨l[i].op=9 then u.headD 0 else 0) else 0
def dZ_ (l:List Nd) (W:Nat) (f:Value->Option Value):Prop :=
 ∀ key v,f key=some v->∃ (i col:Nat) (K:List (D × Int)),key=cM_ i col/\Rep l i K/\v=eG_ (bD_ W K col) (c3_ l i (bG_ W K col))
theorem dZ_.none (l:List Nd) (W:Nat):dZ_ l W (fun _=>Option.none):=fun _ _ h=>by cases h
theorem dZ_.put {l:List Nd} {W:Nat} {f:Value->Option Value} (h:dZ_ l W f) {i col:Nat} {K:List (D × Int)} (hr:Rep l i K):dZ_ l W (hH_ f (cM_ i col) (eG_ (bD_ W K col) (c3_ l i (bG_ W K col)))):=by
 intro key v hk
 rcases oV_ hk with ⟨rfl,rfl⟩|hk
 ·exact ⟨i,col,K,rfl,hr,rfl⟩
 ·exact h key v hk
theorem dZ_.at_ {l:List Nd} {W:Nat} {f:Value->Option Value} (h:dZ_ l W f) {i col:Nat} {K:List (D × Int)} (hr:Rep l i K) {v:Value} (hv:f (cM_ i col)=some v):v=eG_ (bD_ W K col) (c3_ l i (bG_ W K col)):=by
 obtain ⟨i',col',K',hk,hr',hv'⟩:=h _ _ hv
 obtain ⟨rfl,rfl⟩:=agT_ hk
 have:=hr.uniq hr'
 subst this
 exact hv'
structure CS (w0:World) (gs gp bm W:Nat) (l:List Nd) (w:World):Prop where
 blk:w.heap[gs]?=some (.cells #[.pointer (some ⟨gp,0,none⟩),.int .i64 (W:Nat),.map (some bm)] 168 (0,0))
 map:∃ f,dL_ Tryz.prog 173 f bm w/\dZ_ l W f
 lowS:w0.heap.size<=gs
 lowM:w0.heap.size<=bm
 bel:Below w0.heap.size w0 w
theorem jF_ {w w':World} (h:Below w.heap.size w w') (b:Nat):w.grownBy w' (some b):=⟨h.os,h.tape,h.output,h.size,fun i hi _=>h.block i hi⟩
theorem qU_ {a w:World} {b:Nat} (h:a.grownBy w (some b)) (o:Obj):a.grownBy (w.alloc o) (some b):=a4_ h (aE_)
theorem aj8_ {a w:World} {b:Nat} (h:a.grownBy w (some b)) (n:Nat):a.grownBy (w.drewN n) (some b):=a4_ h (below_drewN (Below.refl _ _) n)
theorem pN_ {a w:World} {b:Nat} (h:a.grownBy w (some b)):a.grownBy w.drew (some b):=a4_ h ((Below.refl _ _).drew)
theorem eZ_ {a w w':World} {b:Nat} (h:a.grownBy w (some b)) (hb:Below w.heap.size w w'):a.grownBy w' (some b):=a4_ h hb
theorem oE_ {a w:World} {b:Nat} (h:a.grownBy w (some b)) {p:Addr} (hp:a.heap.size<=p.block) (v:Value):a.grownBy (w.setCell p v) (some b) :=
 ⟨h.os,h.tape,h.output,by simpa [World.setCell] using h.size,fun i hi hne=>by
  rw [← h.block i hi hne]
  have:i≠p.block:=by omega
  simp [World.setCell,Array.getElem?_modify]
  intro e;exact absurd e.symm this⟩
theorem aeG_ {a w:World} {b g:Nat} {o:Obj} (hg:a.heap[g]?=some o) (h:a.grownBy w (some b)) (hne:g≠b):w.heap[g]?=some o :=
 (h.block g (a5_ hg) (by simpa using hne)).trans hg
theorem a1_ {w:World} {g j:Nat} {cs:Array Value} {T:TypeId} {fr:Nat × Nat} (h:w.heap[g]?=some (.cells cs T fr)):w.cell? ⟨g,j,none⟩=cs[j]?:=cell_of_row w g j cs T fr h
theorem aS_ {w:World} {g j:Nat} {cs:Array Value} {T:TypeId} (h:w.heap[g]?=some (.cells cs T (0,0))):w.frozen? ⟨g,j,none⟩=false:=by simp [World.frozen?,h]
variable {w0 w w':World} {gs gp bm W:Nat} {l:List Nd}
theorem CS.past (h:CS w0 gs gp bm W l w) (hb:Below w.heap.size w w'):CS w0 gs gp bm W l w':=by
 obtain ⟨f,h1,h2⟩:=h.map
 exact ⟨a6_ h.blk hb,⟨f,h1.below hb,h2⟩,h.lowS,h.lowM,h.bel.trans (hb.mono h.bel.size)⟩
theorem CS.ms (h:CS w0 gs gp bm W l w):gs≠bm:=by
 obtain ⟨f,⟨es,clock,hb,_⟩,_⟩:=h.map
 rintro rfl
 rw [h.blk] at hb
 cases hb
theorem CS.mlt (h:CS w0 gs gp bm W l w):bm<w.heap.size:=by
 obtain ⟨f,h1,_⟩:=h.map
 exact h1.lt
theorem CS.set (h:CS w0 gs gp bm W l w) {p:Addr} (h1:p.block≠gs) (h2:p.block≠bm) (h3:w0.heap.size<=p.block) (v:Value):CS w0 gs gp bm W l (w.setCell p v):=by
 obtain ⟨f,g1,g2⟩:=h.map
 refine ⟨gP_ h.blk p v (Ne.symm h1),⟨f,g1.of_block ?_,g2⟩,h.lowS,h.lowM,h.bel.setCell h3 _⟩
 simp [World.setCell,Array.getElem?_modify]
 intro e;exact absurd e h2
theorem CS.new (w:World) (gp W:Nat) (l:List Nd):CS w (w.heap.size+1) gp w.heap.size W l ((w.alloc (.map #[] 0)).alloc (.cells #[.pointer (some ⟨gp,0,none⟩),.int .i64 (W:Nat),.map (some w.heap.size)] 168)):=by
 refine ⟨aG_ si_,⟨_,(dL_.made w).below (aE_),dZ_.none l W⟩,by omega,Nat.le_refl _,(aE_).alloc si_ _⟩
def fC_ (w0:World) (gs gp bm W:Nat) (l:List Nd) (v:Value) (w:World) (e:Ending) (w':World):Prop:=e=.returned v/\CS w0 gs gp bm W l w'/\w.grownBy w' (some bm)
def i2_ (w0:World) (gs gp bm W:Nat) (l:List Nd) (z:Nat):Prop :=
 ∀ (K:List (D × Int)),szK K<=z->∀ (i col:Nat) (w:World),Rep l i K->CS w0 gs gp bm W l w->col+3300*szK K<=2000000 ->
  Calls Tryz.prog 90 #[.pointer (some ⟨gs,0,none⟩),cM_ i col] w (fC_ w0 gs gp bm W l (eG_ (bD_ W K col) (c3_ l i (bG_ W K col))) w)
end
section
open Go.RowKit
theorem aq2_ {t:ByteArray} (h:iN_ t.data.toList) (w:World):Calls Tryz.prog 68 #[.string t,.string ⟨#[10]⟩] w fun e w'=>e=.returned (.tuple #[.string t,.bool false])/\w=w':=by
 refine (Tryz.strings_CutPrefix t ⟨#[10]⟩ w).mono fun e w' ⟨he,hw⟩=>⟨?_,hw.symm⟩
 have hp:Lib.hasPrefix t.data.toList [10]=false:=by
  cases hl:t.data.toList with
  | nil=>rfl
  | cons c r =>
   have hc:c≠10:=h c (by simp [hl])
   simp [Lib.hasPrefix,List.isPrefixOf]
   exact fun e=>hc e.symm
 rw [he]
 have e1:(⟨#[10]⟩:ByteArray).data.toList=[10]:=rfl
 rw [e1,Lib.trimPrefix,hp]
 simp
theorem anW_ {r:List UInt8} (w:World):Calls Tryz.prog 68 #[.string ⟨(10::r).toArray⟩,.string ⟨#[10]⟩] w fun e w'=>e=.returned (.tuple #[.string ⟨r.toArray⟩,.bool true])/\w=w':=by
 refine (Tryz.strings_CutPrefix ⟨(10::r).toArray⟩ ⟨#[10]⟩ w).mono fun e w' ⟨he,hw⟩=>⟨?_,hw.symm⟩
 have hp:Lib.hasPrefix (10::r) [10]=true:=by simp [Lib.hasPrefix,List.isPrefixOf]
 rw [he]
 have e1:(⟨#[10]⟩:ByteArray).data.toList=[10]:=rfl
 have e2:(⟨(10::r).toArray⟩:ByteArray).data.toList=10::r:=by simp
 rw [e1,e2,Lib.trimPrefix,hp]
 simp
theorem r0_ (a b:Nat × Nat) (h1:a.1+b.1<=9000000) (h2:a.2+b.2<=9000000) (w:World) :
  Calls Tryz.prog 161 #[.agg #[.int .i64 (a.1:Nat),.int .i64 (a.2:Nat)],.agg #[.int .i64 (b.1:Nat),.int .i64 (b.2:Nat)]] w (Ret w (.agg #[.int .i64 ((dW_ a b).1:Nat),.int .i64 ((dW_ a b).2:Nat)])):=by
 obtain ⟨a1,a2⟩:=a
 obtain ⟨b1,b2⟩:=b
 simp only [dW_] at *
 go_enter Tryz.func161,Tryz.ntmps161
 go_wp2
 simp [bodyPost,results,Tryz.results161,go_sem]
 exact ⟨rfl,aF_⟩
theorem dr60 (h:P:=by
 go_enter Tryz.func163,Tryz.ntmps163
 go_wp2
 go_ret
 exact ⟨rfl,aF_⟩):P:=h
theorem vO_ (a b:Nat × Nat) {r:Bool} (h:cW_ a b=r) (w:World) :
  Calls Tryz.prog 163 #[.agg #[.int .i64 (a.1:Nat),.int .i64 (a.2:Nat)],.agg #[.int .i64 (b.1:Nat),.int .i64 (b.2:Nat)]] w (Ret w (.bool r)):=by
 obtain ⟨a1,a2⟩:=a
 obtain ⟨b1,b2⟩:=b
 simp only [cW_] at h ⊢
 subst h
 have he:((a1:Int)==(b1:Int))=decide (a1=b1):=by rw [Bool.eq_iff_iff];simp;omega
 by_cases h1:a1<b1
 ·have k1:decide (a1<b1)=true:=decide_eq_true h1
  have k2:decide (a1<b1∨a1=b1/\a2<b2)=true:=decide_eq_true (.inl h1)
  rw [k2]
  clear k2 he
  exact dr60
 ·have k1:decide (a1<b1)=false:=decide_eq_false h1
  by_cases h2:a1=b1
  ·subst h2
   have k3:decide (a1<a1∨a1=a1/\a2<b2)=decide (a2<b2):=by congr 1;simp
   rw [k3]
   clear k3 he h1
   by_cases h3:a2<b2
   ·have k4:decide (a2<b2)=true:=decide_eq_true h3
    rw [k4]
    exact dr60
   ·have k4:decide (a2<b2)=false:=decide_eq_false h3
    rw [k4]
    exact dr60
  ·have k2:((a1:Int)==(b1:Int))=false:=by rw [he];exact decide_eq_false h2
   have k3:decide (a1<b1∨a1=b1/\a2<b2)=false:=decide_eq_false om_
   rw [k3]
   clear k3 he
   exact dr60
theorem at0_ {gs gp bm W col:Nat} {t:ByteArray} (ht:iN_ t.data.toList) (hc:col<=9000000) (hz:t.size<=9000000) (hW:W<=100) (w:World)
  (hb:w.heap[gs]?=some (.cells #[.pointer (some ⟨gp,0,none⟩),.int .i64 (W:Nat),.map (some bm)] 168 (0,0))) :
  Calls Tryz.prog 160 #[.pointer (some ⟨gs,0,none⟩),.string t,.int .i64 (col:Nat)] w (Ret w (.tuple #[.agg #[.int .i64 ((cst W col t.data.toList).1:Nat),.int .i64 ((cst W col t.data.toList).2:Nat)],.int .i64 (aK_ col t.data.toList:Nat)])):=by
 have hov:(ovr W col t.data.toList:Int)=max 0 ((col:Int)+t.size-W)-max 0 ((col:Int)-W):=by
  rw [xX_ W _ col ht]
  have:t.data.toList.length=t.size:=by simp
  rw [this]
  omega
 have hcl:(aK_ col t.data.toList:Int)=col+t.size:=by
  rw [qM_ _ _ ht];simp
 have hln:=xN_ _ ht
 have c1:=a1_ (j:=1) hb
 simp at c1
 have hlt:=a5_ hb
 have HT:=hd_ ht;have HOV:=hd_ hov;have HCL:=hd_ hcl;have HLN:=hd_ hln
 clear ht hov hcl hln hb
 go_enter Tryz.func160,Tryz.ntmps160
 go_wp2_with (go_at_call 68;refine (aq2_ HT.out _).mono ?_;rintro e w1 ⟨rfl,rfl⟩)
 have c2:∀ o1 o2,((w.alloc o1).alloc o2).cell? ⟨gs,1,none⟩=some (.int .i64 (W:Nat)):=fun o1 o2 =>
  (((aE_).alloc si_ _:Below w.heap.size w _).cell (p:=⟨gs,1,none⟩) hlt).trans c1
 have k1:IntKind.i64.wrap ((col:Int)+t.size-W)=(col:Int)+t.size-W:=IntWalk.i64_in _ om_
 have k2:IntKind.i64.wrap ((col:Int)-W)=(col:Int)-W:=IntWalk.i64_in _ om_
 have k3:IntKind.i64.wrap (max 0 ((col:Int)+t.size-W)-max 0 ((col:Int)-W))=(ovr W col t.data.toList:Nat):=by rw [← HOV.out];exact IntWalk.i64_in _ (by have:=jM_ W t.data.toList col;simp at this;omega)
 go_region_held3 (fun w'=>w'.cell? ⟨gs,1,none⟩=some (.int .i64 (W:Nat))) (exact c2 _ _) (fail)
 clear k1 k2 k3
 all_goals
  go_wp2
  simp [bodyPost,results,Tryz.results160,go_sem]
  refine ⟨?_,aF_⟩
  rw [HCL.out,cst,HLN.out]
  first|rfl|(rw [HOV.out];rfl)
theorem asZ_ {gs gp bm W col:Nat} {r:List UInt8} (ht:iN_ r) (hz:r.length<=9000000) (hW:W<=100) (w:World)
  (hb:w.heap[gs]?=some (.cells #[.pointer (some ⟨gp,0,none⟩),.int .i64 (W:Nat),.map (some bm)] 168 (0,0))) :
  Calls Tryz.prog 160 #[.pointer (some ⟨gs,0,none⟩),.string ⟨(10::r).toArray⟩,.int .i64 (col:Nat)] w (Ret w (.tuple #[.agg #[.int .i64 ((cst W col (10::r)).1:Nat),.int .i64 ((cst W col (10::r)).2:Nat)],.int .i64 (aK_ col (10::r):Nat)])):=by
 obtain ⟨t,htr⟩:∃ t:ByteArray,t=⟨r.toArray⟩:=⟨_,rfl⟩
 have hts:t.size=r.length:=by rw [htr];simp [ByteArray.size]
 have hcs:cst W col (10::r)=(ovr W 0 r,1):=by simp [cst,ovr,lns,xN_ _ ht]
 have hcl:aK_ col (10::r)=t.size:=by rw [aK_,if_pos rfl,qM_ _ _ ht,hts];omega
 have hov:(ovr W 0 r:Int)=max 0 ((t.size:Int)-W)-max 0 ((0:Int)-W):=by
  rw [xX_ W _ 0 ht,hts]
  omega
 have hol:=jM_ W r 0
 rw [hcs,hcl]
 have c1:=a1_ (j:=1) hb
 simp at c1
 have hlt:=a5_ hb
 rw [← hts] at hz hol
 have CUT:=hd_ (fun w=>anW_ (r:=r) w)
 rw [← htr] at CUT
 have HOV:=hd_ hov
 clear ht hov hcl hcs hb hts htr
 generalize ovr W 0 r=OV at *
 go_enter Tryz.func160,Tryz.ntmps160
 go_wp2_with (go_at_call 68;refine (CUT.out _).mono ?_;rintro e w1 ⟨rfl,rfl⟩)
 have c2:∀ o1 o2,((w.alloc o1).alloc o2).cell? ⟨gs,1,none⟩=some (.int .i64 (W:Nat)):=fun o1 o2 =>
  (((aE_).alloc si_ _:Below w.heap.size w _).cell (p:=⟨gs,1,none⟩) hlt).trans c1
 have k1:IntKind.i64.wrap ((t.size:Int)-W)=(t.size:Int)-W:=IntWalk.i64_in _ om_
 have k2:IntKind.i64.wrap ((0:Int)-W)=(0:Int)-W:=IntWalk.i64_in _ om_
 have k3:IntKind.i64.wrap (max 0 ((t.size:Int)-W)-max 0 ((0:Int)-W))=(OV:Nat):=by rw [← HOV.out];exact IntWalk.i64_in _ om_
 go_region_held3 (fun w'=>w'.cell? ⟨gs,1,none⟩=some (.int .i64 (W:Nat))) (exact c2 _ _) (fail)
 clear k1 k2 k3
 all_goals
  go_wp2
  simp [bodyPost,results,Tryz.results160,go_sem]
  refine ⟨?_,aF_⟩
  first|rfl|(rw [HOV.out];simp)
theorem mD_ {gs gp bm W col:Nat} {t:ByteArray} (ht:PTxt t) (hc:col<=9000000) (hz:t.size<=9000000) (hW:W<=100) (w:World)
  (hb:w.heap[gs]?=some (.cells #[.pointer (some ⟨gp,0,none⟩),.int .i64 (W:Nat),.map (some bm)] 168 (0,0))) :
  Calls Tryz.prog 160 #[.pointer (some ⟨gs,0,none⟩),.string t,.int .i64 (col:Nat)] w (Ret w (.tuple #[.agg #[.int .i64 ((cst W col t.data.toList).1:Nat),.int .i64 ((cst W col t.data.toList).2:Nat)],.int .i64 (aK_ col t.data.toList:Nat)])):=by
 rcases ht with h|⟨r,h,rfl⟩
 ·exact at0_ h hc hz hW w hb
 ·have e:(⟨(10::r).toArray⟩:ByteArray).data.toList=10::r:=by simp
  rw [e]
  have hsz1:(⟨(10::r).toArray⟩:ByteArray).size=r.length+1:=by simp [ByteArray.size]
  exact asZ_ h om_ hW w hb
end
section
open Go.RowKit Go.Maps Go.ChangeMaps
theorem qJ_ (W:Nat) (K:List (D × Int)) (col:Nat) (h:∀ u ∈ c8_ K,(cI_ K u).length<=3300*szK K):(bD_ W K col).1<=3300*szK K/\(bD_ W K col).2<=3300*szK K:=by
 have h1:=h _ (fK_ W K col)
 exact ⟨Nat.le_trans (jM_ _ _ _) h1,Nat.le_trans (oJ_ _) h1⟩
theorem Doc.text_le {l:List Nd} {x:D} (hd:Doc l x):∀ (z:Nat) (i:Nat) (K:List (D × Int)),szK K<=z->Rep l i K->∀ u ∈ c8_ K,(cI_ K u).length<=3300*szK K:=by
 intro z
 induction z with
 | zero =>
  intro i K hz hr u hu
  by_cases hi:i<l.length
  ·have:=apO_ hr hi;omega
  ·obtain ⟨rfl,_⟩:=hr.ge om_
   simp [c8_] at hu
   subst hu
   simp [cI_,dH_]
 | succ z ih =>
  intro i K hz hr u hu
  by_cases hi:i<l.length
  ·by_cases ho:l[i].op=8∨l[i].op=9
   ·obtain ⟨t0,ok0,i0,i1,K0,K1,hp,h0,h1,_⟩:=qK_ (gp:=0) (A:=none) (c:=0) hd hr hi ho
    rw [hp.2.2.2.2,List.mem_append] at hu
    rcases hu with hu|hu
    ·cases ok0 with
     | false=>simp at hu
     | true =>
      simp only [if_true,List.mem_map] at hu
      obtain ⟨v,hv,rfl⟩:=hu
      obtain ⟨_,g2,g3⟩:=h0 rfl
      rw [f9_ (g3 v) hv,List.length_append]
      have:=ih i0 K0 (by have:=hp.2.2.1;omega) hp.1 v hv
      have e:t0.data.toList.length=t0.size:=by simp
      omega
    ·simp only [List.mem_map] at hu
     obtain ⟨v,hv,rfl⟩:=hu
     obtain ⟨_,g2,g3⟩:=h1
     rw [f9_ (g3 v) hv,List.length_append]
     have:=ih i1 K1 (by have:=hp.2.2.2.1;omega) hp.2.1 v hv
     simp only [ByteArray.size_empty] at g2
     have e:ByteArray.empty.data.toList.length=0:=by simp
     omega
   ·obtain ⟨txt,nx,K',hs,hw,_,_⟩:=t0_ (gp:=0) (A:=none) (c:=0) hd hr hi ⟨fun h=>ho (.inl h),fun h=>ho (.inr h)⟩
    rw [hw] at hu
    rw [f9_ (hs.2.2.2 u) hu,List.length_append]
    have:=ih nx K' (by have:=hs.2.1;omega) hs.1 u hu
    have e:txt.data.toList.length=txt.size:=by simp
    have:=hs.2.2.1
    omega
  ·obtain ⟨rfl,_⟩:=hr.ge om_
   simp [c8_] at hu
   subst hu
   simp [cI_,dH_]
theorem Rep.le {l:List Nd} {i:Nat} {K:List (D × Int)} (h:Rep l i K):i<=l.length:=by
 rcases Nat.lt_or_ge i l.length with h1|h1
 ·omega
 ·exact Nat.le_of_eq (h.ge h1).2
def kF_ (gs gp bm:Nat) (A:Option Addr) (c n bx i col:Nat) (f:Value->Option Value) (W':World):Prop :=
 W'.cell? ⟨gs,0,none⟩=some (.pointer (some ⟨gp,0,none⟩))/\W'.cell? ⟨gs,2,none⟩=some (.map (some bm))/\W'.cell? ⟨gp,0,none⟩=some (.slice A n c)/\W'.cell? ⟨bx,0,none⟩=some (.int .i64 (i:Nat))/\W'.cell? ⟨bx,1,none⟩=some (.int .i64 (col:Nat)) /\
  (Instr.lookup 166 (.map (some bm)) (.agg #[.int .i64 (i:Nat),.int .i64 (col:Nat)]) true).run Tryz.prog W'=.ok (.tuple #[(f (cM_ i col)).getD (.agg #[.int .i64 0,.int .i64 0,.int .i64 0]),.bool (f (cM_ i col)).isSome]) W'
theorem kF_.past {gs gp bm c n bx i col:Nat} {A:Option Addr} {f:Value->Option Value} {w w':World} (h0:w.cell? ⟨gs,0,none⟩=some (.pointer (some ⟨gp,0,none⟩))) (h2:w.cell? ⟨gs,2,none⟩=some (.map (some bm))) (hp:w.cell? ⟨gp,0,none⟩=some (.slice A n c))
  (hx:w.heap[bx]?=some (.cells #[.int .i64 (i:Nat),.int .i64 (col:Nat)] 173 (0,0))) (hm:dL_ Tryz.prog 173 f bm w) (hs:gs<w.heap.size) (hg:gp<w.heap.size) {kl:Lit} (hk:keyOf Tryz.prog 173 (cM_ i col)=some kl) (hb:Below w.heap.size w w'):kF_ gs gp bm A c n bx i col f w':=by
 have hx':=a6_ hx hb
 exact ⟨(hb.cell (p:=⟨gs,0,none⟩) hs).trans h0,(hb.cell (p:=⟨gs,2,none⟩) hs).trans h2,(hb.cell (p:=⟨gp,0,none⟩) hg).trans hp,a1_ hx',a1_ hx',(hm.below hb).look pX_ Tryz.underlying166 (akF_ _) hk⟩
theorem dr52 (h:P:=by
 go_region_held3 (fun w'=>w'.cell? ⟨gs,2,none⟩=some (.map (some bm))/\w'.cell? ⟨w.heap.size,0,none⟩=some (.int .i64 (i:Nat))/\w'.cell? ⟨w.heap.size,1,none⟩=some (.int .i64 (col:Nat)))
  (exact ⟨(HWW.out (.cells #[.int .i64 0,.int .i64 0,.int .i64 0] 170) _ aF_).2.1,(HWW.out (.cells #[.int .i64 0,.int .i64 0,.int .i64 0] 170) _ aF_).2.2.2.1,(HWW.out (.cells #[.int .i64 0,.int .i64 0,.int .i64 0] 170) _ aF_).2.2.2.2.1⟩) (fail)
 first
 |
  clear hlk hlk2
  all_goals
   go_wp2
   simp [bodyPost,results,Tryz.results90,go_sem]
   exact ⟨rfl,aF_⟩
  done
 |
  all_goals
   go_wp2_with fail
   go_meet
   case rel=>exact ⟨rfl,aF_,(HBX.out _ aF_).1,(HBX.out _ aF_).2⟩):P:=h
theorem dr58 (h:P:=by
 refine kF_.past (((hb1 _ _).cell (p:=⟨gs,0,none⟩) hsl).trans y0) (((hb1 _ _).cell (p:=⟨gs,2,none⟩) hsl).trans y2) (((hb1 _ _).cell (p:=⟨gp,0,none⟩) hgp).trans z0) ?_ (hmf.below (hb1 _ _)) so_ so_ hkl hW'
 exact (Below.heap_alloc _ _ _ si_).trans (aG_ rfl)):P:=h
theorem z5_ {l:List Nd} {x:D} (hd:Doc l x) {gp:Nat} {A:Option Addr} {c:Nat} (w0:World) (hpl:b9_ w0 gp A c l) {gs bm W:Nat} {i col:Nat} {w:World} (hcs:CS w0 gs gp bm W l w) (hcol:col<=2000000)
  {f:Value->Option Value} (hmf:dL_ Tryz.prog 173 f bm w) {a b:Nat} {ch:Int} (hv:f (cM_ i col)=some (.agg #[.int .i64 (a:Nat),.int .i64 (b:Nat),.int .i64 ch])) (hlt:i<l.length) :
  Calls Tryz.prog 90 #[.pointer (some ⟨gs,0,none⟩),cM_ i col] w (Ret w (.agg #[.int .i64 (a:Nat),.int .i64 (b:Nat),.int .i64 ch])):=by
 have h400:=hd.len
 obtain ⟨kl,hkl⟩:=r4_ (i:=i) (col:=col) om_ om_
 have hml:=hcs.mlt
 have hsl:=a5_ hcs.blk
 have y0:=a1_ (j:=0) hcs.blk
 have y2:=a1_ (j:=2) hcs.blk
 simp at y0 y2
 obtain ⟨gn,gd,ge,gf',gi,cf,ci,hpa⟩:=hpl.past hcs.bel
 have z0:=hpa.c0
 have hgp:=hpa.lp
 have hne:((i:Int)==(l.length:Int))=false:=by rw [beq_eq_false_iff_ne];omega
 have hb1:∀ o1 o2,Below w.heap.size w ((w.alloc o1).alloc o2):=fun o1 o2=>(aE_).alloc si_ _
 have HW:∀ (o2:Obj) W',Below (((w.alloc (.cells #[.int .i64 (i:Nat),.int .i64 (col:Nat)] 173)).alloc o2).heap.size) ((w.alloc (.cells #[.int .i64 (i:Nat),.int .i64 (col:Nat)] 173)).alloc o2) W'->kF_ gs gp bm A c l.length w.heap.size i col f W':=fun o2 W' hW'=>by
  exact dr58
 unfold kF_ at HW
 simp only [hv,Option.getD_some,Option.isSome_some] at HW
 unfold cM_
 have HWW:=hd_ HW
 clear HW hpa hkl hcs hmf hv hpl hd y0 y2 z0
 go_enter Tryz.func90,Tryz.ntmps90
 go_wp2
 obtain ⟨q0,q2,z0,x0,x1,hl⟩:=HWW.out (.cells #[.int .i64 0,.int .i64 0,.int .i64 0] 170) _ (Below.refl _ _)
 clear hl
 go_quiet (fail)
 go_wp2
 have hlk:∀ n:Nat,(Instr.lookup 166 (.map (some bm)) (.agg #[.int .i64 (i:Nat),.int .i64 (col:Nat)]) true).run Tryz.prog (((w.alloc (.cells #[.int .i64 (i:Nat),.int .i64 (col:Nat)] 173)).alloc (.cells #[.int .i64 0,.int .i64 0,.int .i64 0] 170)).drewN n)=.ok (.tuple #[.agg #[.int .i64 (a:Nat),.int .i64 (b:Nat),.int .i64 ch],.bool true]) (((w.alloc (.cells #[.int .i64 (i:Nat),.int .i64 (col:Nat)] 173)).alloc (.cells #[.int .i64 0,.int .i64 0,.int .i64 0] 170)).drewN n) :=
  fun n=>(HWW.out _ _ (below_drewN (Below.refl _ _) n)).2.2.2.2.2
 have hlk2:∀ n:Nat,(Instr.lookup 166 (.map (some bm)) (.agg #[.int .i64 (i:Nat),.int .i64 (col:Nat)]) true).run Tryz.prog ((((w.alloc (.cells #[.int .i64 (i:Nat),.int .i64 (col:Nat)] 173)).alloc (.cells #[.int .i64 0,.int .i64 0,.int .i64 0] 170)).drewN n).alloc (.cells #[.int .i64 0,.int .i64 0,.int .i64 0] 170))=.ok (.tuple #[.agg #[.int .i64 (a:Nat),.int .i64 (b:Nat),.int .i64 ch],.bool true]) ((((w.alloc (.cells #[.int .i64 (i:Nat),.int .i64 (col:Nat)] 173)).alloc (.cells #[.int .i64 0,.int .i64 0,.int .i64 0] 170)).drewN n).alloc (.cells #[.int .i64 0,.int .i64 0,.int .i64 0] 170)) :=
  fun n=>(HWW.out (.cells #[.int .i64 0,.int .i64 0,.int .i64 0] 170) ((((w.alloc (.cells #[.int .i64 (i:Nat),.int .i64 (col:Nat)] 173)).alloc (.cells #[.int .i64 0,.int .i64 0,.int .i64 0] 170)).drewN n).alloc (.cells #[.int .i64 0,.int .i64 0,.int .i64 0] 170)) aF_).2.2.2.2.2
 exact dr52
theorem aeQ_ {l:List Nd} {gp:Nat} {A:Option Addr} {c:Nat} (w0:World) (hpl:b9_ w0 gp A c l) {gs bm W:Nat} {col:Nat} {w:World} (hcs:CS w0 gs gp bm W l w) :
  Calls Tryz.prog 90 #[.pointer (some ⟨gs,0,none⟩),cM_ l.length col] w (Ret w (.agg #[.int .i64 0,.int .i64 0,.int .i64 0])):=by
 have hsl:=a5_ hcs.blk
 have y0:=a1_ (j:=0) hcs.blk
 simp at y0
 obtain ⟨gn,gd,ge,gf',gi,cf,ci,hpa⟩:=hpl.past hcs.bel
 have z0:=hpa.c0
 have hgp:=hpa.lp
 have hne:((l.length:Int)==(l.length:Int))=true:=by simp
 have hb1:∀ o1 o2,Below w.heap.size w ((w.alloc o1).alloc o2):=fun o1 o2=>(aE_).alloc si_ _
 have q0:∀ o1 o2,((w.alloc o1).alloc o2).cell? ⟨gs,0,none⟩=some (.pointer (some ⟨gp,0,none⟩)):=fun o1 o2=>((hb1 o1 o2).cell (p:=⟨gs,0,none⟩) hsl).trans y0
 have q1:∀ o1 o2,((w.alloc o1).alloc o2).cell? ⟨gp,0,none⟩=some (.slice A l.length c):=fun o1 o2=>((hb1 o1 o2).cell (p:=⟨gp,0,none⟩) hgp).trans z0
 unfold cM_
 clear hpa hcs hpl y0 z0
 go_enter Tryz.func90,Tryz.ntmps90
 go_wp2
 go_quiet (fail)
 go_wp2
 simp [bodyPost,results,Tryz.results90,go_sem]
 exact ⟨rfl,aF_⟩
theorem jD_ (x y z:Value) (W:World):(Instr.field 170 (.agg #[x,y,z]) 0).run Tryz.prog W=.ok (.agg #[x,y]) W:=by kernel_rfl
theorem vW_ (x y z:Value) (W:World):(Instr.field 170 (.agg #[x,y,z]) 1).run Tryz.prog W=.ok z W:=by kernel_rfl
theorem eW_ {w:World} {b:Nat} {x y z p q r:Value} {T:TypeId} {fr:Nat × Nat} (h:w.heap[b]?=some (.cells #[x,y,z] T fr)):(((w.setCell ⟨b,0,none⟩ p).setCell ⟨b,1,none⟩ q).setCell ⟨b,2,none⟩ r).heap[b]?=some (.cells #[p,q,r] T fr):=by
 simp [World.setCell,Array.getElem?_modify,h]
theorem dE_ {a w:World} {b g:Nat} {o:Obj} (h:a.grownBy w (some b)) (hg:a.heap[g]?=some o) (hne:g≠b):w.heap[g]?=some o:=aeG_ hg h hne
def set3 (w:World) (b:Nat) (p q r:Value):World:=((w.setCell ⟨b,0,none⟩ p).setCell ⟨b,1,none⟩ q).setCell ⟨b,2,none⟩ r
theorem CS.set3_ {w0 w:World} {gs gp bm W b:Nat} {l:List Nd} (h:CS w0 gs gp bm W l w) (h1:b≠gs) (h2:b≠bm) (h3:w0.heap.size<=b) (p q r:Value):CS w0 gs gp bm W l (set3 w b p q r) :=
 ((h.set (p:=⟨b,0,none⟩) h1 h2 h3 p).set (p:=⟨b,1,none⟩) h1 h2 h3 q).set (p:=⟨b,2,none⟩) h1 h2 h3 r
theorem iS_ {a w:World} {m b:Nat} (h:a.grownBy w (some m)) (hb:a.heap.size<=b) (p q r:Value):a.grownBy (set3 w b p q r) (some m) :=
 oE_ (oE_ (oE_ h (p:=⟨b,0,none⟩) hb p) (p:=⟨b,1,none⟩) hb q) (p:=⟨b,2,none⟩) hb r
theorem h2_ {w:World} {g b:Nat} {o:Obj} (h:w.heap[g]?=some o) (hne:g≠b) (p q r:Value):(set3 w b p q r).heap[g]?=some o :=
 gP_ (gP_ (gP_ h ⟨b,0,none⟩ p hne) ⟨b,1,none⟩ q hne) ⟨b,2,none⟩ r hne
theorem CS.store {w0 w:World} {gs gp bm W i col:Nat} {l:List Nd} (h:CS w0 gs gp bm W l w) {f:Value->Option Value} {val:Value} {o:Obj}
  (ho:∀ W':World,W'.heap[bm]?=w.heap[bm]?->(Instr.mapUpdate 166 (.map (some bm)) (.agg #[.int .i64 (i:Nat),.int .i64 (col:Nat)]) val).run Tryz.prog W'=.ok () (setBlock W' bm o)/\dL_ Tryz.prog 173 (hH_ f (.agg #[.int .i64 (i:Nat),.int .i64 (col:Nat)]) val) bm (setBlock W' bm o)/\W'.grownBy (setBlock W' bm o) (some bm))
  (hk:dZ_ l W (hH_ f (.agg #[.int .i64 (i:Nat),.int .i64 (col:Nat)]) val)) (n:Nat):CS w0 gs gp bm W l (setBlock (w.drewN n) bm o):=by
 obtain ⟨_,h2,h3⟩:=ho (w.drewN n) rfl
 exact ⟨dE_ h3 h.blk h.ms,⟨_,h2,hk⟩,h.lowS,h.lowM,(below_drewN h.bel n).grown h3 h.bel.size (fun k e=>by cases e;exact h.lowM)⟩
theorem gI_ {K:Act->World->Prop} {Q:Exit->Act->World->Prop} {e:Exit} {a:Act} {w:World} (S:World->Prop) (hS:S w) (h:∀ w',S w'->Exit.then K Q e a w'):Exit.then K Q e a w:=h w hS
theorem j9_ {P:Program} {c:Code} {Q:Exit->Act->World->Prop} {a:Act} {w:World} (S:World->Prop) (hS:S w) (h:∀ w',S w'->Code.wp P c Q a w'):Code.wp P c Q a w:=h w hS
theorem dr48 (h:P:=by
 have hml:=hcs.mlt
 have hms:=hcs.ms
 have hsl:=a5_ hcs.blk
 obtain ⟨gn,gd,ge,gf',gi,cf,ci,hpa⟩:=hpl.past hcs.bel
 have z0:=hpa.c0
 have hgp:=hpa.lp
 have hne:((i:Int)==(l.length:Int))=false:=by rw [beq_eq_false_iff_ne];omega
 have y0:=a1_ (j:=0) hcs.blk
 have y2:=a1_ (j:=2) hcs.blk
 simp at y0 y2
 have hb1:∀ o1 o2,Below w.heap.size w ((w.alloc o1).alloc o2):=fun o1 o2=>(aE_).alloc si_ _
 have HW:∀ (o2:Obj) W',Below (((w.alloc (.cells #[.int .i64 (i:Nat),.int .i64 (col:Nat)] 173)).alloc o2).heap.size) ((w.alloc (.cells #[.int .i64 (i:Nat),.int .i64 (col:Nat)] 173)).alloc o2) W'->kF_ gs gp bm A c l.length w.heap.size i col f W':=fun o2 W' hW'=>by
  exact dr58
 unfold kF_ at HW
 simp only [hv,Option.getD_none,Option.isSome_none] at HW
 unfold cM_
 have HBX:Hid (∀ W',Below (((w.alloc (.cells #[.int .i64 (i:Nat),.int .i64 (col:Nat)] 173)).alloc (.cells #[.int .i64 0,.int .i64 0,.int .i64 0] 170)).heap.size) ((w.alloc (.cells #[.int .i64 (i:Nat),.int .i64 (col:Nat)] 173)).alloc (.cells #[.int .i64 0,.int .i64 0,.int .i64 0] 170)) W'->W'.heap[w.heap.size]?=some (.cells #[.int .i64 (i:Nat),.int .i64 (col:Nat)] 173 (0,0))/\W'.heap[w.heap.size+1]?=some (.cells #[.int .i64 0,.int .i64 0,.int .i64 0] 170 (0,0))) :=
  hd_ (fun W' hb=>⟨a6_ ((Below.heap_alloc _ _ _ si_).trans (aG_ rfl)) hb,a6_ (aG_ si_) hb⟩)
 have HGS:Hid (∀ W',Below w.heap.size w W'->W'.heap[gs]?=some (.cells #[.pointer (some ⟨gp,0,none⟩),.int .i64 (W:Nat),.map (some bm)] 168 (0,0))):=hd_ (fun W' hb=>a6_ hcs.blk hb)
 first
 |
  have HWW:=hd_ HW
  have HCS:=hd_ hcs;have HKL:=hd_ hkl
  have HPN:Hid (∀ W',Below w0.heap.size w0 W'->b9_ W' gp A c l/\Nds W' W'.heap.size A l):=hd_ (fun W' hb=>⟨hpl.past hb,hnl.past hb⟩)
  have HPN1:Hid (∀ W',Below w.heap.size w W'->b9_ W' gp A c l/\Nds W' W'.heap.size A l):=hd_ (fun W' hb=>HPN.out W' (hcs.bel.trans (hb.mono hcs.bel.size)))
  clear HW hpa hkl hcs hmf hv hpl y0 y2 z0 hnl
  go_enter Tryz.func90,Tryz.ntmps90
  go_wp2
  obtain ⟨q0,q2,z0,x0,x1,hl⟩:=HWW.out (.cells #[.int .i64 0,.int .i64 0,.int .i64 0] 170) _ (Below.refl _ _)
  clear hl
  go_quiet (fail)
  go_upto_region 3 with fail
  have hlk:∀ n:Nat,(Instr.lookup 166 (.map (some bm)) (.agg #[.int .i64 (i:Nat),.int .i64 (col:Nat)]) true).run Tryz.prog (((w.alloc (.cells #[.int .i64 (i:Nat),.int .i64 (col:Nat)] 173)).alloc (.cells #[.int .i64 0,.int .i64 0,.int .i64 0] 170)).drewN n)=.ok (.tuple #[.agg #[.int .i64 0,.int .i64 0,.int .i64 0],.bool false]) (((w.alloc (.cells #[.int .i64 (i:Nat),.int .i64 (col:Nat)] 173)).alloc (.cells #[.int .i64 0,.int .i64 0,.int .i64 0] 170)).drewN n) :=
   fun n=>(HWW.out _ _ (below_drewN (Below.refl _ _) n)).2.2.2.2.2
  have hlk2:∀ n:Nat,(Instr.lookup 166 (.map (some bm)) (.agg #[.int .i64 (i:Nat),.int .i64 (col:Nat)]) true).run Tryz.prog ((((w.alloc (.cells #[.int .i64 (i:Nat),.int .i64 (col:Nat)] 173)).alloc (.cells #[.int .i64 0,.int .i64 0,.int .i64 0] 170)).drewN n).alloc (.cells #[.int .i64 0,.int .i64 0,.int .i64 0] 170))=.ok (.tuple #[.agg #[.int .i64 0,.int .i64 0,.int .i64 0],.bool false]) ((((w.alloc (.cells #[.int .i64 (i:Nat),.int .i64 (col:Nat)] 173)).alloc (.cells #[.int .i64 0,.int .i64 0,.int .i64 0] 170)).drewN n).alloc (.cells #[.int .i64 0,.int .i64 0,.int .i64 0] 170)) :=
   fun n=>(HWW.out (.cells #[.int .i64 0,.int .i64 0,.int .i64 0] 170) ((((w.alloc (.cells #[.int .i64 (i:Nat),.int .i64 (col:Nat)] 173)).alloc (.cells #[.int .i64 0,.int .i64 0,.int .i64 0] 170)).drewN n).alloc (.cells #[.int .i64 0,.int .i64 0,.int .i64 0] 170)) aF_).2.2.2.2.2
  go_cut [6] from 31 to 39 (fun s6 wx=>s6=.bool false/\Below w.heap.size w wx/\wx.heap[w.heap.size]?=some (.cells #[.int .i64 (i:Nat),.int .i64 (col:Nat)] 173 (0,0))/\wx.heap[w.heap.size+1]?=some (.cells #[.int .i64 0,.int .i64 0,.int .i64 0] 170 (0,0)))
  case first =>
   exact dr52
  case rest =>
   exact dr47
  done
 |
  have HMF:=hd_ hmf
  have HWW:=hd_ HW
  have HCS:=hd_ hcs;have HKL:=hd_ hkl
  have HPN:Hid (∀ W',Below w.heap.size w W'->b9_ W' gp A c l/\Nds W' W'.heap.size A l):=hd_ (fun W' hb=>⟨hpl.past (hcs.bel.trans (hb.mono hcs.bel.size)),hnl.past (hcs.bel.trans (hb.mono hcs.bel.size))⟩)
  clear HW hpa hkl hcs hmf hv hpl hd y0 y2 z0 hrep hnl
  go_enter Tryz.func90,Tryz.ntmps90
  go_wp2
  obtain ⟨q0,q2,z0,x0,x1,hl⟩:=HWW.out (.cells #[.int .i64 0,.int .i64 0,.int .i64 0] 170) _ (Below.refl _ _)
  clear hl
  go_quiet (fail)
  go_upto_region 3 with fail
  have hlk:∀ n:Nat,(Instr.lookup 166 (.map (some bm)) (.agg #[.int .i64 (i:Nat),.int .i64 (col:Nat)]) true).run Tryz.prog (((w.alloc (.cells #[.int .i64 (i:Nat),.int .i64 (col:Nat)] 173)).alloc (.cells #[.int .i64 0,.int .i64 0,.int .i64 0] 170)).drewN n)=.ok (.tuple #[.agg #[.int .i64 0,.int .i64 0,.int .i64 0],.bool false]) (((w.alloc (.cells #[.int .i64 (i:Nat),.int .i64 (col:Nat)] 173)).alloc (.cells #[.int .i64 0,.int .i64 0,.int .i64 0] 170)).drewN n) :=
   fun n=>(HWW.out _ _ (below_drewN (Below.refl _ _) n)).2.2.2.2.2
  have hlk2:∀ n:Nat,(Instr.lookup 166 (.map (some bm)) (.agg #[.int .i64 (i:Nat),.int .i64 (col:Nat)]) true).run Tryz.prog ((((w.alloc (.cells #[.int .i64 (i:Nat),.int .i64 (col:Nat)] 173)).alloc (.cells #[.int .i64 0,.int .i64 0,.int .i64 0] 170)).drewN n).alloc (.cells #[.int .i64 0,.int .i64 0,.int .i64 0] 170))=.ok (.tuple #[.agg #[.int .i64 0,.int .i64 0,.int .i64 0],.bool false]) ((((w.alloc (.cells #[.int .i64 (i:Nat),.int .i64 (col:Nat)] 173)).alloc (.cells #[.int .i64 0,.int .i64 0,.int .i64 0] 170)).drewN n).alloc (.cells #[.int .i64 0,.int .i64 0,.int .i64 0] 170)) :=
   fun n=>(HWW.out (.cells #[.int .i64 0,.int .i64 0,.int .i64 0] 170) ((((w.alloc (.cells #[.int .i64 (i:Nat),.int .i64 (col:Nat)] 173)).alloc (.cells #[.int .i64 0,.int .i64 0,.int .i64 0] 170)).drewN n).alloc (.cells #[.int .i64 0,.int .i64 0,.int .i64 0] 170)) aF_).2.2.2.2.2
  go_cut [6] from 31 to 39 (fun s6 wx=>s6=.bool false/\Below w.heap.size w wx/\wx.heap[w.heap.size]?=some (.cells #[.int .i64 (i:Nat),.int .i64 (col:Nat)] 173 (0,0))/\wx.heap[w.heap.size+1]?=some (.cells #[.int .i64 0,.int .i64 0,.int .i64 0] 170 (0,0)))
  case first =>
   exact dr52
  case rest =>
   obtain ⟨rfl,hBx,hX,hR⟩:=hcut
   clear hlk hlk2 x0 x1 z0 q0 q2 HBX HWW
   go_wp2_with fail
   refine j9_ (fun w3=>Below w.heap.size w w3/\w3.heap[w.heap.size]?=some (.cells #[.int .i64 (i:Nat),.int .i64 (col:Nat)] 173 (0,0))/\w3.heap[w.heap.size+1]?=some (.cells #[.int .i64 0,.int .i64 0,.int .i64 0] 170 (0,0))/\w3.heap[wc.heap.size]?=some (.cells #[.int .i64 0,.int .i64 0,.int .i64 (-1)] 170 (0,0)))
    ⟨hBx.alloc hBx.size _,(Below.heap_alloc _ _ _ (a5_ hX)).trans hX,(Below.heap_alloc _ _ _ (a5_ hR)).trans hR,aG_ rfl⟩ ?_
   rintro w3 ⟨hB3,hX3,hR3,h73⟩
   obtain ⟨b7,hb7⟩:∃ b7,wc.heap.size=b7:=⟨_,rfl⟩
   rw [hb7] at h73 ⊢
   have hb7':w.heap.size+2<=b7:=by rw [← hb7];exact a5_ hR
   clear hb7 hX hR hBx
   have e0:=a1_ (j:=0) (HGS.out w3 hB3)
   have e1:=a1_ (j:=0) hX3
   simp at e0 e1
   go_region_held3 (fun w'=>w'.cell? ⟨gs,0,none⟩=some (.pointer (some ⟨gp,0,none⟩))/\w'.cell? ⟨w.heap.size,0,none⟩=some (.int .i64 (i:Nat)))
    (first|exact ⟨e0,e1⟩|exact ⟨e0',e1'⟩)
    ((go_at_call 159;refine (HPC.out _ (HPN.out _ aF_).1 (HPN.out _ aF_).2).mono ?_;rintro e w4 ⟨rfl,hB4⟩;have e0':=(hB4.cell (p:=⟨gs,0,none⟩) (a5_ (HGS.out w3 hB3))).trans e0;have e1':=(hB4.cell (p:=⟨w.heap.size,0,none⟩) (a5_ hX3)).trans e1))
   have hB34:Below w3.heap.size w3 w4:=by first|exact hB4|exact bR_ hB4|exact eM_ hB4
   have hB4':=hB3.trans (hB34.mono hB3.size)
   have hX4:=a6_ hX3 hB34
   have hR4:=a6_ hR3 hB34
   have h74:=a6_ h73 hB34
   have e2:=a1_ (j:=1) hX4
   simp at e2
   clear hB4 hB34 hB3 hX3 hR3 h73 e0 e1 e0' e1'
   go_wp2_with (go_at_call 160;refine (HPUT.out _ (HGS.out _ hB4')).mono ?_;rintro e w5 ⟨rfl,hB5⟩)
   have hX5:=a6_ hX4 hB5
   have hR5:=a6_ hR4 hB5
   have h75:=a6_ h74 hB5
   have hB5':=hB4'.trans (hB5.mono hB4'.size)
   clear hX4 hR4 h74 hB4' hB5 e2
   refine j9_ (fun w6=>Below w.heap.size w w6/\w6.heap[w.heap.size]?=some (.cells #[.int .i64 (i:Nat),.int .i64 (col:Nat)] 173 (0,0))/\w6.heap[w.heap.size+1]?=some (.cells #[.int .i64 0,.int .i64 0,.int .i64 0] 170 (0,0))/\w6.heap[b7]?=some (.cells #[.int .i64 0,.int .i64 0,.int .i64 (-1)] 170 (0,0))/\w6.heap[w5.heap.size]?=some (.cells #[.int .i64 (c0a:Nat),.int .i64 (c0b:Nat)] 113 (0,0)))
    ⟨hB5'.alloc hB5'.size _,(Below.heap_alloc _ _ _ (a5_ hX5)).trans hX5,(Below.heap_alloc _ _ _ (a5_ hR5)).trans hR5,(Below.heap_alloc _ _ _ (a5_ h75)).trans h75,aG_ rfl⟩ ?_
   rintro w6 ⟨hB6,hX6,hR6,h76,h116⟩
   obtain ⟨b11,hb11⟩:∃ b11,w5.heap.size=b11:=⟨_,rfl⟩
   rw [hb11] at h116 ⊢
   have hb11':b7<b11:=by rw [← hb11];exact a5_ h75
   clear hb11 hX5 hR5 h75 hB5'
   have hfld:=jD_
   have HC6:Hid (∀ W',Below w6.heap.size w6 W'->CS w0 gs gp bm W l W'):=hd_ (fun W' hb=>(HCS.out.past hB6).past hb)
   have f0:=a1_ (j:=0) h116
   have f1:=a1_ (j:=1) h116
   simp at f0 f1
   go_region_held3 (fun w'=>w'.cell? ⟨b11,0,none⟩=some (.int .i64 (c0a:Nat))/\w'.cell? ⟨b11,1,none⟩=some (.int .i64 (c0b:Nat)))
    (first|exact ⟨f0,f1⟩|exact ⟨f0',f1'⟩|exact ⟨f0'',f1''⟩|(refine ⟨?_, ?_⟩ <;> (rw [World.cell?_setCell_other _ _ _ _ (by first|(simp;done)|(simp;omega)),World.cell?_setCell_other _ _ _ _ (by first|(simp;done)|(simp;omega)),World.cell?_setCell_other _ _ _ _ (by first|(simp;done)|(simp;omega))];first|exact f0''|exact f1'')))
    (first
     | (go_at_call 90;refine (HCH.out _ HREPN.out (HC6.out _ aF_) hcb).mono ?_;rintro e w7 ⟨rfl,hcs7,hg7⟩;have HC7:=hd_ hcs7;have HG7:=hd_ hg7;have h117:=dE_ hg7 h116 om_;have f0':=(show w7.cell? ⟨b11,0,none⟩=some (.int .i64 (c0a:Nat)) from a1_ (j:=0) h117);have f1':=(show w7.cell? ⟨b11,1,none⟩=some (.int .i64 (c0b:Nat)) from a1_ (j:=1) h117);clear hcs7 hg7)
     | (go_at_call 161;refine (HPL.out _).mono ?_;rintro e w8 ⟨rfl,hB8⟩;have HB8:=hd_ hB8;have f0'':=(hB8.cell (p:=⟨b11,0,none⟩) (a5_ h117)).trans f0';have f1'':=(hB8.cell (p:=⟨b11,1,none⟩) (a5_ h117)).trans f1';have h78:=a6_ (dE_ HG7.out h76 om_) hB8;have g0:w8.cell? ⟨b7,0,none⟩=some (.int .i64 0):=a1_ (j:=0) h78;have g1:w8.cell? ⟨b7,1,none⟩=some (.int .i64 0):=a1_ (j:=1) h78;have g2:w8.cell? ⟨b7,2,none⟩=some (.int .i64 (-1)):=a1_ (j:=2) h78;have k0:=aS_ (j:=0) h78;have k1:=aS_ (j:=1) h78;have k2:=aS_ (j:=2) h78;clear hB8))
   clear f0 f1 f0' f1' f0'' f1'' hfld
   refine ds4 ?_;intro hB78
   have gb7:w.grownBy w7 (some bm):=a2_ (jF_ aF_ bm) HG7.out
   have gb8:=eZ_ gb7 hB78
   have hC8:=HC7.out.past hB78
   have hX8:=a6_ (dE_ HG7.out hX6 om_) hB78
   have hR8:=a6_ (dE_ HG7.out hR6 om_) hB78
   clear h117 g0 g1 g2 k0 k1 k2 HB8 HG7 HC7 gb7 hB78 hB6 hX6 hR6 h76 h116 HC6
   refine gI_ (fun w9=>CS w0 gs gp bm W l w9/\w.grownBy w9 (some bm)/\w9.heap[w.heap.size]?=some (.cells #[.int .i64 (i:Nat),.int .i64 (col:Nat)] 173 (0,0))/\w9.heap[w.heap.size+1]?=some (.cells #[.int .i64 0,.int .i64 0,.int .i64 0] 170 (0,0))/\w9.heap[b7]?=some (.cells #[.int .i64 ((c0a:Int)+(c1a:Int)),.int .i64 ((c0b:Int)+(c1b:Int)),.int .i64 0] 170 (0,0))) ?c1 ?c2
   case c1=>exact ⟨hC8.set3_ om_ om_ (by have:=HCS.out.bel.size;omega) _ _ _,iS_ gb8 om_ _ _ _,h2_ hX8 om_ _ _ _,h2_ hR8 om_ _ _ _,eW_ h78⟩
   case c2 =>
    rintro w9 ⟨hC9,gb9,hX9,hR9,h79⟩
    clear hC8 gb8 hX8 hR8 h78
    have HC9:=hd_ hC9;have GB9:=hd_ gb9
    clear hC9 gb9
    go_wp2_with fail
    go_loopw [13] (fun s13 wr=>s13=.int .i64 0/\wr=w9) (fun _ _=>0)
    case atStart=>exact ⟨rfl,rfl⟩
    case round =>
     obtain ⟨rfl,rfl⟩:=hrel
     go_wp2_with fail
     obtain ⟨f',hm',hk'⟩:=HC9.out.map
     obtain ⟨o,ho⟩:=hm'.store pX_ Tryz.underlying166 HKL.out (.agg #[.int .i64 ((c0a:Int)+(c1a:Int)),.int .i64 ((c0b:Int)+(c1b:Int)),.int .i64 0])
     unfold cM_ at ho
     have HO:=hd_ ho
     have hk2:=HKN.out f' hk'
     have HK2:=hd_ hk2
     have hup:(Instr.mapUpdate 166 (.map (some bm)) (.agg #[.int .i64 (i:Nat),.int .i64 (col:Nat)]) (.agg #[.int .i64 ((c0a:Int)+(c1a:Int)),.int .i64 ((c0b:Int)+(c1b:Int)),.int .i64 0])).run Tryz.prog wr.drew=.ok () (setBlock wr.drew bm o):=(ho wr.drew rfl).1
     have v0:wr.cell? ⟨gs,2,none⟩=some (.map (some bm)):=a1_ (j:=2) HC9.out.blk
     have v1:wr.cell? ⟨w.heap.size,0,none⟩=some (.int .i64 (i:Nat)):=a1_ (j:=0) hX9
     have v2:wr.cell? ⟨w.heap.size,1,none⟩=some (.int .i64 (col:Nat)):=a1_ (j:=1) hX9
     have v3:wr.cell? ⟨b7,0,none⟩=some (.int .i64 ((c0a:Int)+(c1a:Int))):=a1_ (j:=0) h79
     have v4:wr.cell? ⟨b7,1,none⟩=some (.int .i64 ((c0b:Int)+(c1b:Int))):=a1_ (j:=1) h79
     have v5:wr.cell? ⟨b7,2,none⟩=some (.int .i64 0):=a1_ (j:=2) h79
     have far:∀ (g:Nat) (x:Obj),g≠bm->wr.heap[g]?=some x->(setBlock wr.drew bm o).heap[g]?=some x:=fun g x hne hg=>dE_ (HO.out wr.drew rfl).2.2 hg hne
     have FAR:=hd_ far
     have u0:(setBlock wr.drew bm o).cell? ⟨gs,2,none⟩=some (.map (some bm)):=a1_ (j:=2) (far gs _ hms HC9.out.blk)
     have u1:(setBlock wr.drew bm o).cell? ⟨w.heap.size,0,none⟩=some (.int .i64 (i:Nat)):=a1_ (j:=0) (far _ _ om_ hX9)
     have u2:(setBlock wr.drew bm o).cell? ⟨w.heap.size,1,none⟩=some (.int .i64 (col:Nat)):=a1_ (j:=1) (far _ _ om_ hX9)
     have u3:(setBlock wr.drew bm o).cell? ⟨b7,0,none⟩=some (.int .i64 ((c0a:Int)+(c1a:Int))):=a1_ (j:=0) (far _ _ om_ h79)
     have u4:(setBlock wr.drew bm o).cell? ⟨b7,1,none⟩=some (.int .i64 ((c0b:Int)+(c1b:Int))):=a1_ (j:=1) (far _ _ om_ h79)
     have u5':(setBlock wr.drew bm o).cell? ⟨b7,2,none⟩=some (.int .i64 0):=a1_ (j:=2) (far _ _ om_ h79)
     clear ho hk2 hk' hm' far
     go_region_held3 (fun w'=>w'.cell? ⟨gs,2,none⟩=some (.map (some bm))/\w'.cell? ⟨w.heap.size,0,none⟩=some (.int .i64 (i:Nat))/\w'.cell? ⟨w.heap.size,1,none⟩=some (.int .i64 (col:Nat))/\w'.cell? ⟨b7,0,none⟩=some (.int .i64 ((c0a:Int)+(c1a:Int)))/\w'.cell? ⟨b7,1,none⟩=some (.int .i64 ((c0b:Int)+(c1b:Int)))/\w'.cell? ⟨b7,2,none⟩=some (.int .i64 0))
      (first|exact ⟨v0,v1,v2,v3,v4,v5⟩|exact ⟨u0,u1,u2,u3,u4,u5'⟩) (fail)
     clear hup u0 u1 u2 u3 u4 u5' v0 v1 v2 v3 v4 v5
     refine gI_ (fun wy=>CS w0 gs gp bm W l wy/\w.grownBy wy (some bm)/\wy.heap[w.heap.size+1]?=some (.cells #[.int .i64 0,.int .i64 0,.int .i64 0] 170 (0,0))/\wy.heap[b7]?=some (.cells #[.int .i64 ((c0a:Int)+(c1a:Int)),.int .i64 ((c0b:Int)+(c1b:Int)),.int .i64 0] 170 (0,0))) ⟨HC9.out.store HO.out HK2.out 1,a2_ (pN_ GB9.out) (HO.out wr.drew rfl).2.2,FAR.out _ _ om_ hR9,FAR.out _ _ om_ h79⟩ ?_
     rintro wy ⟨hCy,gby,hRy,h7y⟩
     have a0:=a1_ (j:=0) h7y
     have a1:=a1_ (j:=1) h7y
     have a2:=a1_ (j:=2) h7y
     have a3:=a1_ (j:=0) hRy
     have a4:=a1_ (j:=1) hRy
     have a5:=a1_ (j:=2) hRy
     have a6:=aS_ (j:=0) hRy
     have a7:=aS_ (j:=1) hRy
     have a8:=aS_ (j:=2) hRy
     simp at a0 a1 a2 a3 a4 a5
     have HCY:=hd_ hCy;have GBY:=hd_ gby;have HRY:=hd_ hRy
     clear hCy gby hRy h7y hX9 hR9 h79
     go_wp2
     have b0:=eW_ (p:=.int .i64 ((c0a:Int)+(c1a:Int))) (q:=.int .i64 ((c0b:Int)+(c1b:Int))) (r:=.int .i64 0) HRY.out
     have b1:=a1_ (j:=0) b0
     have b2:=a1_ (j:=1) b0
     have b3:=a1_ (j:=2) b0
     simp at b1 b2 b3
     simp [bodyPost,results,Tryz.results90,go_sem,b1,b2,b3]
     refine ⟨?_,HCY.out.set3_ om_ om_ (by have:=HCS.out.bel.size;omega) _ _ _,iS_ GBY.out om_ _ _ _⟩
     rfl):P:=h
theorem ahV_ {l:List Nd} {x:D} (hd:Doc l x) {gp:Nat} {A:Option Addr} {c:Nat} (w0:World) (hpl:b9_ w0 gp A c l) (hnl:Nds w0 w0.heap.size A l) {gs bm W:Nat} (hW:W<=100) {K:List (D × Int)} (ih:∀ y,y<szK K->i2_ w0 gs gp bm W l y) {i col:Nat} {w:World} (hrep:Rep l i K) (hcs:CS w0 gs gp bm W l w) (hcol:col+3300*szK K<=2000000)
  {f:Value->Option Value} (hmf:dL_ Tryz.prog 173 f bm w) (hv:f (cM_ i col)=none) (hlt:i<l.length) (ho:l[i].op≠8/\l[i].op≠9) :
  Calls Tryz.prog 90 #[.pointer (some ⟨gs,0,none⟩),cM_ i col] w (fC_ w0 gs gp bm W l (eG_ (bD_ W K col) (c3_ l i (bG_ W K col))) w):=by
 have h400:=hd.len
 obtain ⟨kl,hkl⟩:=r4_ (i:=i) (col:=col) om_ om_
 obtain ⟨txt,nx,K',hst,hwk,hpt,hpc⟩:=t0_ (gp:=gp) (A:=A) (c:=c) hd hrep hlt ho
 obtain ⟨hbu,hbc⟩:=tX_ hst hwk W col
 have hch:c3_ l i (bG_ W K col)=0:=by
  unfold c3_
  rw [dif_pos hlt,if_neg]
  rintro (h|h)
  ·exact ho.1 h
  ·exact ho.2 h
 have hsz:=hst.2.1
 have htx:=hst.2.2.1
 have hcl:=iQ_ txt.data.toList col
 have hle:=qJ_ W K' (aK_ col txt.data.toList) (hd.text_le _ nx K' (Nat.le_refl _) hst.1)
 have ho0:=jM_ W txt.data.toList col
 have hl0:=oJ_ txt.data.toList
 have etx:txt.data.toList.length=txt.size:=by simp
 have hcheap:=ih (szK K') hsz K' (Nat.le_refl _) nx (aK_ col txt.data.toList)
 have HREPN:=hd_ hst.1
 have hputc:=fun (W':World) hb=>mD_ (gs:=gs) (gp:=gp) (bm:=bm) (W:=W) (col:=col) hpt om_ om_ hW W' hb
 have hres:eG_ (bD_ W K col) (c3_ l i (bG_ W K col))=.agg #[.int .i64 ((dW_ (cst W col txt.data.toList) (bD_ W K' (aK_ col txt.data.toList))).1:Nat),.int .i64 ((dW_ (cst W col txt.data.toList) (bD_ W K' (aK_ col txt.data.toList))).2:Nat),.int .i64 0]:=by rw [hbc,hch];rfl
 have hknown:∀ f':Value->Option Value,dZ_ l W f'->dZ_ l W (hH_ f' (.agg #[.int .i64 (i:Nat),.int .i64 (col:Nat)]) (.agg #[.int .i64 ((dW_ (cst W col txt.data.toList) (bD_ W K' (aK_ col txt.data.toList))).1:Nat),.int .i64 ((dW_ (cst W col txt.data.toList) (bD_ W K' (aK_ col txt.data.toList))).2:Nat),.int .i64 0])):=fun f' hk=>by
  have:=hk.put (i:=i) (col:=col) hrep
  rw [hres] at this
  exact this
 rw [hres]
 have hplus:=fun (W':World)=>r0_ (cst W col txt.data.toList) (bD_ W K' (aK_ col txt.data.toList)) (by simp only [cst];omega) (by simp only [cst];omega) W'
 unfold eG_ cM_ at hcheap
 have hcb:(aK_ col txt.data.toList)+3300*szK K'<=2000000:=by omega
 generalize hchN:c3_ l nx (bG_ W K' (aK_ col txt.data.toList))=chN at *
 generalize hc0:cst W col txt.data.toList=c0 at *
 generalize hc1:bD_ W K' (aK_ col txt.data.toList)=c1 at *
 generalize hco:aK_ col txt.data.toList=colN at *
 obtain ⟨c0a,c0b⟩:=c0
 obtain ⟨c1a,c1b⟩:=c1
 simp only [dW_,Int.natCast_add] at *
 have HCH:=hd_ hcheap;have HPUT:=hd_ hputc;have HPL:=hd_ hplus;have HKN:=hd_ hknown;have HPC:=hd_ hpc
 clear hcheap hputc hplus hknown hpc hst hwk hbu hbc hch hsz htx hcl hle ho0 hl0 etx hres hc0 hc1 hco hchN hpt ih
 exact dr48
end
section
open Go.RowKit Go.Maps Go.ChangeMaps
def set2 (w:World) (b:Nat) (p q:Value):World:=(w.setCell ⟨b,0,none⟩ p).setCell ⟨b,1,none⟩ q
theorem CS.set2_ {w0 w:World} {gs gp bm W b:Nat} {l:List Nd} (h:CS w0 gs gp bm W l w) (h1:b≠gs) (h2:b≠bm) (h3:w0.heap.size<=b) (p q:Value):CS w0 gs gp bm W l (set2 w b p q) :=
 (h.set (p:=⟨b,0,none⟩) h1 h2 h3 p).set (p:=⟨b,1,none⟩) h1 h2 h3 q
theorem t8_ {a w:World} {m b:Nat} (h:a.grownBy w (some m)) (hb:a.heap.size<=b) (p q:Value):a.grownBy (set2 w b p q) (some m) :=
 oE_ (oE_ h (p:=⟨b,0,none⟩) hb p) (p:=⟨b,1,none⟩) hb q
theorem gD_ {w:World} {g b:Nat} {o:Obj} (h:w.heap[g]?=some o) (hne:g≠b) (p q:Value):(set2 w b p q).heap[g]?=some o :=
 gP_ (gP_ h ⟨b,0,none⟩ p hne) ⟨b,1,none⟩ q hne
theorem kJ_ {w:World} {b:Nat} {x y p q:Value} {T:TypeId} {fr:Nat × Nat} (h:w.heap[b]?=some (.cells #[x,y] T fr)):((w.setCell ⟨b,0,none⟩ p).setCell ⟨b,1,none⟩ q).heap[b]?=some (.cells #[p,q] T fr):=by
 simp [World.setCell,Array.getElem?_modify,h]
theorem dr55 (h:P:=by
 have far:∀ (g:Nat) (x:Obj),g≠bm->wr.heap[g]?=some x->(setBlock wr.drew bm o).heap[g]?=some x:=fun g x hne hg=>dE_ (HO.out wr.drew rfl).2.2 hg hne
 have FAR:=hd_ far
 have u0:(setBlock wr.drew bm o).cell? ⟨gs,2,none⟩=some (.map (some bm)):=a1_ (j:=2) (far gs _ hms HC.out.blk)
 have u1:(setBlock wr.drew bm o).cell? ⟨w.heap.size,0,none⟩=some (.int .i64 (i:Nat)):=a1_ (j:=0) (far _ _ om_ HX.out)
 have u2:(setBlock wr.drew bm o).cell? ⟨w.heap.size,1,none⟩=some (.int .i64 (col:Nat)):=a1_ (j:=1) (far _ _ om_ HX.out)
 first
 |
  have u3:(setBlock wr.drew bm o).cell? ⟨b7,0,none⟩=some (.int .i64 (pa1:Nat)):=a1_ (j:=0) (far _ _ om_ H7.out)
  have u4:(setBlock wr.drew bm o).cell? ⟨b7,1,none⟩=some (.int .i64 (pb1:Nat)):=a1_ (j:=1) (far _ _ om_ H7.out)
  have u5':(setBlock wr.drew bm o).cell? ⟨b7,2,none⟩=some (.int .i64 1):=a1_ (j:=2) (far _ _ om_ H7.out)
  clear ho hk2 hk' hm' far
  go_region_held3 (fun w'=>w'.cell? ⟨gs,2,none⟩=some (.map (some bm))/\w'.cell? ⟨w.heap.size,0,none⟩=some (.int .i64 (i:Nat))/\w'.cell? ⟨w.heap.size,1,none⟩=some (.int .i64 (col:Nat))/\w'.cell? ⟨b7,0,none⟩=some (.int .i64 (pa1:Nat))/\w'.cell? ⟨b7,1,none⟩=some (.int .i64 (pb1:Nat))/\w'.cell? ⟨b7,2,none⟩=some (.int .i64 1))
   (first|exact ⟨v0,v1,v2,v3,v4,v5⟩|exact ⟨u0,u1,u2,u3,u4,u5'⟩) (fail)
  clear hup u0 u1 u2 u3 u4 u5' v0 v1 v2 v3 v4 v5
  refine gI_ (fun wy=>CS w0 gs gp bm W l wy/\w.grownBy wy (some bm)/\wy.heap[w.heap.size+1]?=some (.cells #[.int .i64 0,.int .i64 0,.int .i64 0] 170 (0,0))/\wy.heap[b7]?=some (.cells #[.int .i64 (pa1:Nat),.int .i64 (pb1:Nat),.int .i64 1] 170 (0,0))) ⟨HC.out.store HO.out HK2.out 1,a2_ (pN_ GB.out) (HO.out wr.drew rfl).2.2,FAR.out _ _ om_ HR.out,FAR.out _ _ om_ H7.out⟩ ?_
  rintro wy ⟨hCy,gby,hRy,h7y⟩
  have a0:=a1_ (j:=0) h7y
  have a1:=a1_ (j:=1) h7y
  have a2:=a1_ (j:=2) h7y
  have a3:=a1_ (j:=0) hRy
  have a4:=a1_ (j:=1) hRy
  have a5:=a1_ (j:=2) hRy
  have a6:=aS_ (j:=0) hRy
  have a7:=aS_ (j:=1) hRy
  have a8:=aS_ (j:=2) hRy
  simp at a0 a1 a2 a3 a4 a5
  have HCY:=hd_ hCy;have GBY:=hd_ gby;have HRY:=hd_ hRy
  clear hCy gby hRy h7y HX HR H7
  go_wp2
  have b0:=eW_ (p:=.int .i64 (pa1:Nat)) (q:=.int .i64 (pb1:Nat)) (r:=.int .i64 1) HRY.out
  have b1:=a1_ (j:=0) b0
  have b2:=a1_ (j:=1) b0
  have b3:=a1_ (j:=2) b0
  simp at b1 b2 b3
  simp [bodyPost,results,Tryz.results90,go_sem,b1,b2,b3]
  refine ⟨?_,HCY.out.set3_ om_ om_ (by have:=HCS.out.bel.size;omega) _ _ _,iS_ GBY.out om_ _ _ _⟩
  rfl
  done
  done
 |
  have u3:(setBlock wr.drew bm o).cell? ⟨b7,0,none⟩=some (.int .i64 (pa0:Nat)):=a1_ (j:=0) (far _ _ om_ H7.out)
  have u4:(setBlock wr.drew bm o).cell? ⟨b7,1,none⟩=some (.int .i64 (pb0:Nat)):=a1_ (j:=1) (far _ _ om_ H7.out)
  have u5':(setBlock wr.drew bm o).cell? ⟨b7,2,none⟩=some (.int .i64 0):=a1_ (j:=2) (far _ _ om_ H7.out)
  clear ho hk2 hk' hm' far
  go_region_held3 (fun w'=>w'.cell? ⟨gs,2,none⟩=some (.map (some bm))/\w'.cell? ⟨w.heap.size,0,none⟩=some (.int .i64 (i:Nat))/\w'.cell? ⟨w.heap.size,1,none⟩=some (.int .i64 (col:Nat))/\w'.cell? ⟨b7,0,none⟩=some (.int .i64 (pa0:Nat))/\w'.cell? ⟨b7,1,none⟩=some (.int .i64 (pb0:Nat))/\w'.cell? ⟨b7,2,none⟩=some (.int .i64 0))
   (first|exact ⟨v0,v1,v2,v3,v4,v5⟩|exact ⟨u0,u1,u2,u3,u4,u5'⟩) (fail)
  clear hup u0 u1 u2 u3 u4 u5' v0 v1 v2 v3 v4 v5
  refine gI_ (fun wy=>CS w0 gs gp bm W l wy/\w.grownBy wy (some bm)/\wy.heap[w.heap.size+1]?=some (.cells #[.int .i64 0,.int .i64 0,.int .i64 0] 170 (0,0))/\wy.heap[b7]?=some (.cells #[.int .i64 (pa0:Nat),.int .i64 (pb0:Nat),.int .i64 0] 170 (0,0))) ⟨HC.out.store HO.out HK2.out 1,a2_ (pN_ GB.out) (HO.out wr.drew rfl).2.2,FAR.out _ _ om_ HR.out,FAR.out _ _ om_ H7.out⟩ ?_
  rintro wy ⟨hCy,gby,hRy,h7y⟩
  have a0:=a1_ (j:=0) h7y
  have a1:=a1_ (j:=1) h7y
  have a2:=a1_ (j:=2) h7y
  have a3:=a1_ (j:=0) hRy
  have a4:=a1_ (j:=1) hRy
  have a5:=a1_ (j:=2) hRy
  have a6:=aS_ (j:=0) hRy
  have a7:=aS_ (j:=1) hRy
  have a8:=aS_ (j:=2) hRy
  simp at a0 a1 a2 a3 a4 a5
  have HCY:=hd_ hCy;have GBY:=hd_ gby;have HRY:=hd_ hRy
  clear hCy gby hRy h7y HX HR H7
  go_wp2
  have b0:=eW_ (p:=.int .i64 (pa0:Nat)) (q:=.int .i64 (pb0:Nat)) (r:=.int .i64 0) HRY.out
  have b1:=a1_ (j:=0) b0
  have b2:=a1_ (j:=1) b0
  have b3:=a1_ (j:=2) b0
  simp at b1 b2 b3
  simp [bodyPost,results,Tryz.results90,go_sem,b1,b2,b3]
  refine ⟨?_,HCY.out.set3_ om_ om_ (by have:=HCS.out.bel.size;omega) _ _ _,iS_ GBY.out om_ _ _ _⟩
  rfl
  done):P:=h
theorem dr59 (h:P:=by
 have v0:wr.cell? ⟨gs,2,none⟩=some (.map (some bm)):=a1_ (j:=2) HC.out.blk
 have v1:wr.cell? ⟨w.heap.size,0,none⟩=some (.int .i64 (i:Nat)):=a1_ (j:=0) HX.out
 have v2:wr.cell? ⟨w.heap.size,1,none⟩=some (.int .i64 (col:Nat)):=a1_ (j:=1) HX.out
 first
 |
  have v3:wr.cell? ⟨b7,0,none⟩=some (.int .i64 (pa1:Nat)):=a1_ (j:=0) H7.out
  have v4:wr.cell? ⟨b7,1,none⟩=some (.int .i64 (pb1:Nat)):=a1_ (j:=1) H7.out
  have v5:wr.cell? ⟨b7,2,none⟩=some (.int .i64 1):=a1_ (j:=2) H7.out
  exact dr55
  done
 |
  have v3:wr.cell? ⟨b7,0,none⟩=some (.int .i64 (pa0:Nat)):=a1_ (j:=0) H7.out
  have v4:wr.cell? ⟨b7,1,none⟩=some (.int .i64 (pb0:Nat)):=a1_ (j:=1) H7.out
  have v5:wr.cell? ⟨b7,2,none⟩=some (.int .i64 0):=a1_ (j:=2) H7.out
  exact dr55):P:=h
theorem dr44 (h:P:=by
 clear h7c
 first
 |
  go_wp2_with fail
  obtain ⟨f',hm',hk'⟩:=HC.out.map
  obtain ⟨o,ho⟩:=hm'.store pX_ Tryz.underlying166 HKL.out (.agg #[.int .i64 (pa1:Nat),.int .i64 (pb1:Nat),.int .i64 1])
  unfold cM_ at ho
  have HO:=hd_ ho
  have hk2:=HKN.out f' hk'
  have HK2:=hd_ hk2
  have hup:(Instr.mapUpdate 166 (.map (some bm)) (.agg #[.int .i64 (i:Nat),.int .i64 (col:Nat)]) (.agg #[.int .i64 (pa1:Nat),.int .i64 (pb1:Nat),.int .i64 1])).run Tryz.prog wr.drew=.ok () (setBlock wr.drew bm o):=(ho wr.drew rfl).1
  exact dr59
 |
  go_wp2_with fail
  obtain ⟨f',hm',hk'⟩:=HC.out.map
  obtain ⟨o,ho⟩:=hm'.store pX_ Tryz.underlying166 HKL.out (.agg #[.int .i64 (pa0:Nat),.int .i64 (pb0:Nat),.int .i64 0])
  unfold cM_ at ho
  have HO:=hd_ ho
  have hk2:=HKN.out f' hk'
  have HK2:=hd_ hk2
  have hup:(Instr.mapUpdate 166 (.map (some bm)) (.agg #[.int .i64 (i:Nat),.int .i64 (col:Nat)]) (.agg #[.int .i64 (pa0:Nat),.int .i64 (pb0:Nat),.int .i64 0])).run Tryz.prog wr.drew=.ok () (setBlock wr.drew bm o):=(ho wr.drew rfl).1
  exact dr59
 |
  have e0:=a1_ (j:=0) HC.out.blk
  have e1:=a1_ (j:=0) HX.out
  simp at e0 e1
  go_wp2_with fail
  go_region_held3 (fun w'=>w'.cell? ⟨gs,0,none⟩=some (.pointer (some ⟨gp,0,none⟩))/\w'.cell? ⟨w.heap.size,0,none⟩=some (.int .i64 (i:Nat)))
   (first|exact ⟨e0,e1⟩|exact ⟨e0',e1'⟩)
   ((refine ds3 ?_;intro w4 hB4 e0' e1'))
  have hB34:Below wr.heap.size wr w4:=by first|exact hB4|exact bR_ hB4|exact eM_ hB4
  have HC4:=hd_ (HC.out.past hB34);have GB4:=hd_ (eZ_ GB.out hB34);have HX4:=hd_ (a6_ HX.out hB34);have HR4:=hd_ (a6_ HR.out hB34);have H74:=hd_ (a6_ H7.out hB34)
  have e2:=a1_ (j:=1) HX4.out
  simp at e2
  clear hB4 hB34 e0 e1 e0' e1' HC GB HX HR H7
  go_wp2_with (go_at_call 160;refine (HPUT0.out _ HC4.out.blk).mono ?_;rintro e w5 ⟨rfl,hB5⟩)
  refine j9_ (fun w6=>CS w0 gs gp bm W l w6/\w.grownBy w6 (some bm)/\w6.heap[w.heap.size]?=some (.cells #[.int .i64 (i:Nat),.int .i64 (col:Nat)] 173 (0,0))/\w6.heap[w.heap.size+1]?=some (.cells #[.int .i64 0,.int .i64 0,.int .i64 0] 170 (0,0))/\w6.heap[b7]?=some (.cells #[.int .i64 0,.int .i64 0,.int .i64 (-1)] 170 (0,0))/\w6.heap[w5.heap.size]?=some (.cells #[.int .i64 (ea0:Nat),.int .i64 (eb0:Nat)] 113 (0,0)))
   ⟨(HC4.out.past hB5).past (aE_),qU_ (eZ_ GB4.out hB5) _,(Below.heap_alloc _ _ _ (a5_ (a6_ HX4.out hB5))).trans (a6_ HX4.out hB5),(Below.heap_alloc _ _ _ (a5_ (a6_ HR4.out hB5))).trans (a6_ HR4.out hB5),(Below.heap_alloc _ _ _ (a5_ (a6_ H74.out hB5))).trans (a6_ H74.out hB5),aG_ rfl⟩ ?_
  rintro w6 ⟨hc6,hg6,hX6,hR6,h76,h116⟩
  obtain ⟨b11,hb11⟩:∃ b11,w5.heap.size=b11:=⟨_,rfl⟩
  rw [hb11] at h116 ⊢
  have hb11':b7<b11:=by rw [← hb11];exact a5_ (a6_ H74.out hB5)
  clear hb11 hB5 e2 HC4 GB4 HX4 HR4 H74
  have f0:=a1_ (j:=0) h116
  have f1:=a1_ (j:=1) h116
  simp at f0 f1
  have hfld:=jD_
  have HC6:Hid (∀ W',Below w6.heap.size w6 W'->CS w0 gs gp bm W l W'):=hd_ (fun W' hb=>hc6.past hb)
  have HG6:=hd_ hg6
  clear hc6 hg6
  go_region_with (first
    | (go_at_call 90;refine (HCP0.out _ (HC6.out _ aF_)).mono ?_;rintro e w7 ⟨rfl,hcs7,hg7⟩;have HC7:=hd_ hcs7;have HG7:=hd_ hg7;have h117:=dE_ hg7 h116 om_;have f0':=(show w7.cell? ⟨b11,0,none⟩=some (.int .i64 (ea0:Nat)) from a1_ (j:=0) h117);have f1':=(show w7.cell? ⟨b11,1,none⟩=some (.int .i64 (eb0:Nat)) from a1_ (j:=1) h117);clear hcs7 hg7)
    | (go_at_call 161;refine (HPL0.out _).mono ?_;rintro e w8 ⟨rfl,hB8⟩;have HB8:=hd_ hB8;have f0'':=(hB8.cell (p:=⟨b11,0,none⟩) (a5_ h117)).trans f0';have f1'':=(hB8.cell (p:=⟨b11,1,none⟩) (a5_ h117)).trans f1';have k0:=(hB8.frozen (p:=⟨b11,0,none⟩) (a5_ h117)).trans (aS_ (j:=0) h117);have k1:=(hB8.frozen (p:=⟨b11,1,none⟩) (a5_ h117)).trans (aS_ (j:=1) h117);clear hB8))
  all_goals
   refine ds4 ?_;intro hB78
   refine ds5 ?_;intro gb7
   have HG8:=hd_ (eZ_ gb7 hB78)
   have HC8:=hd_ (HC7.out.past hB78)
   have hX8:=a6_ (dE_ HG7.out hX6 om_) hB78
   have hR8:=a6_ (dE_ HG7.out hR6 om_) hB78
   have h78:=a6_ (dE_ HG7.out h76 om_) hB78
   have h118:=a6_ h117 hB78
   clear f0 f1 f0' f1' f0'' f1'' k0 k1 hfld h117 HB8 HG7 HC7 gb7 hB78 hX6 hR6 h76 h116 HC6 HG6
   refine gI_ (fun w9=>CS w0 gs gp bm W l w9/\w.grownBy w9 (some bm)/\w9.heap[w.heap.size]?=some (.cells #[.int .i64 (i:Nat),.int .i64 (col:Nat)] 173 (0,0))/\w9.heap[w.heap.size+1]?=some (.cells #[.int .i64 0,.int .i64 0,.int .i64 0] 170 (0,0))/\w9.heap[b7]?=some (.cells #[.int .i64 0,.int .i64 0,.int .i64 (-1)] 170 (0,0))/\w9.heap[b11]?=some (.cells #[.int .i64 (pa0:Nat),.int .i64 (pb0:Nat)] 113 (0,0)))
    ⟨HC8.out.set2_ om_ om_ (by have:=HCS.out.bel.size;omega) _ _,t8_ HG8.out om_ _ _,gD_ hX8 om_ _ _,gD_ hR8 om_ _ _,gD_ h78 om_ _ _,kJ_ h118⟩ ?_
   rintro w9 ⟨hC9,gb9,hX9,hR9,h79,h119⟩
   have HC9:=hd_ hC9;have GB9:=hd_ gb9;have HX9:=hd_ hX9;have HR9:=hd_ hR9;have H79:=hd_ h79;have H119:=hd_ h119
   clear hC9 gb9 hX9 hR9 h79 h119 hX8 hR8 h78 h118 HC8 HG8
   have m0:=a1_ (j:=0) H79.out
   have m1:=a1_ (j:=1) H79.out
   have m2:=a1_ (j:=2) H79.out
   have m3:=a1_ (j:=0) H119.out
   have m4:=a1_ (j:=1) H119.out
   have m5:=aS_ (j:=0) H79.out
   have m6:=aS_ (j:=1) H79.out
   have m7:=aS_ (j:=2) H79.out
   simp at m0 m1 m2 m3 m4
   go_wp2_with fail
   go_roundw
   case measure=>simp [intOf]
   case rel=>exact ⟨HC9.out.set3_ om_ om_ (by have:=HCS.out.bel.size;omega) _ _ _,iS_ GB9.out om_ _ _ _,h2_ HX9.out om_ _ _ _,h2_ HR9.out om_ _ _ _,.inr (.inl ⟨by first|rfl|go_num,eW_ H79.out⟩)⟩):P:=h
theorem dr50 (h:P:=by
 rintro w6 ⟨hc6,hg6,hX6,hR6,h76,h116⟩
 obtain ⟨b11,hb11⟩:∃ b11,w5.heap.size=b11:=⟨_,rfl⟩
 rw [hb11] at h116 ⊢
 have hb11':b7<b11:=by rw [← hb11];exact a5_ (a6_ H74.out hB5)
 clear hb11 hB5 e2 HC4 GB4 HX4 HR4 H74
 have f0:=a1_ (j:=0) h116
 have f1:=a1_ (j:=1) h116
 simp at f0 f1
 have hfld:=jD_
 have HC6:Hid (∀ W',Below w6.heap.size w6 W'->CS w0 gs gp bm W l W'):=hd_ (fun W' hb=>hc6.past hb)
 have HG6:=hd_ hg6
 clear hc6 hg6
 go_region_with (first
   | (go_at_call 90;refine (HCP1.out _ (HC6.out _ aF_)).mono ?_;rintro e w7 ⟨rfl,hcs7,hg7⟩;have HC7:=hd_ hcs7;have HG7:=hd_ hg7;have h117:=dE_ hg7 h116 om_;have f0':=(show w7.cell? ⟨b11,0,none⟩=some (.int .i64 (ea1:Nat)) from a1_ (j:=0) h117);have f1':=(show w7.cell? ⟨b11,1,none⟩=some (.int .i64 (eb1:Nat)) from a1_ (j:=1) h117);clear hcs7 hg7)
   | (go_at_call 161;refine (HPL1.out _).mono ?_;rintro e w8 ⟨rfl,hB8⟩;have HB8:=hd_ hB8;have f0'':=(hB8.cell (p:=⟨b11,0,none⟩) (a5_ h117)).trans f0';have f1'':=(hB8.cell (p:=⟨b11,1,none⟩) (a5_ h117)).trans f1';have k0:=(hB8.frozen (p:=⟨b11,0,none⟩) (a5_ h117)).trans (aS_ (j:=0) h117);have k1:=(hB8.frozen (p:=⟨b11,1,none⟩) (a5_ h117)).trans (aS_ (j:=1) h117);clear hB8))
 first
 |
  all_goals
   exact dr45
  done
 |
  all_goals
   refine ds4 ?_;intro hB78
   refine ds5 ?_;intro gb7
   have HG8:=hd_ (eZ_ gb7 hB78)
   have HC8:=hd_ (HC7.out.past hB78)
   have hX8:=a6_ (dE_ HG7.out hX6 om_) hB78
   have hR8:=a6_ (dE_ HG7.out hR6 om_) hB78
   have h78:=a6_ (dE_ HG7.out h76 om_) hB78
   have h118:=a6_ h117 hB78
   clear f0 f1 f0' f1' f0'' f1'' k0 k1 hfld h117 HB8 HG7 HC7 gb7 hB78 hX6 hR6 h76 h116 HC6 HG6
   refine gI_ (fun w9=>CS w0 gs gp bm W l w9/\w.grownBy w9 (some bm)/\w9.heap[w.heap.size]?=some (.cells #[.int .i64 (i:Nat),.int .i64 (col:Nat)] 173 (0,0))/\w9.heap[w.heap.size+1]?=some (.cells #[.int .i64 0,.int .i64 0,.int .i64 0] 170 (0,0))/\w9.heap[b7]?=some (.cells #[.int .i64 0,.int .i64 0,.int .i64 (-1)] 170 (0,0))/\w9.heap[b11]?=some (.cells #[.int .i64 (pa1:Nat),.int .i64 (pb1:Nat)] 113 (0,0)))
    ⟨HC8.out.set2_ om_ om_ (by have:=HCS.out.bel.size;omega) _ _,t8_ HG8.out om_ _ _,gD_ hX8 om_ _ _,gD_ hR8 om_ _ _,gD_ h78 om_ _ _,kJ_ h118⟩ ?_
   rintro w9 ⟨hC9,gb9,hX9,hR9,h79,h119⟩
   have HC9:=hd_ hC9;have GB9:=hd_ gb9;have HX9:=hd_ hX9;have HR9:=hd_ hR9;have H79:=hd_ h79;have H119:=hd_ h119
   clear hC9 gb9 hX9 hR9 h79 h119 hX8 hR8 h78 h118 HC8 HG8
   have m0:=a1_ (j:=0) H79.out
   have m1:=a1_ (j:=1) H79.out
   have m2:=a1_ (j:=2) H79.out
   have m3:=a1_ (j:=0) H119.out
   have m4:=a1_ (j:=1) H119.out
   have m5:=aS_ (j:=0) H79.out
   have m6:=aS_ (j:=1) H79.out
   have m7:=aS_ (j:=2) H79.out
   simp at m0 m1 m2 m3 m4
   go_wp2_with fail
   go_roundw
   case measure=>simp [intOf]
   case rel=>exact ⟨HC9.out.set3_ om_ om_ (by have:=HCS.out.bel.size;omega) _ _ _,iS_ GB9.out om_ _ _ _,h2_ HX9.out om_ _ _ _,h2_ HR9.out om_ _ _ _,.inr (.inr ⟨by first|rfl|go_num,eW_ H79.out⟩)⟩):P:=h
theorem dr51 (h:P:=by
 clear h7c
 have e0:=a1_ (j:=0) HC.out.blk
 have e1:=a1_ (j:=0) HX.out
 simp at e0 e1
 go_wp2_with fail
 go_region_held3 (fun w'=>w'.cell? ⟨gs,0,none⟩=some (.pointer (some ⟨gp,0,none⟩))/\w'.cell? ⟨w.heap.size,0,none⟩=some (.int .i64 (i:Nat)))
  (first|exact ⟨e0,e1⟩|exact ⟨e0',e1'⟩)
  ((go_at_call 162;refine (HCH1.out _ (HPW.out _ aF_).1 (HPW.out _ aF_).2).mono ?_;rintro e w4 ⟨rfl,hB4⟩;have e0':=(hB4.cell (p:=⟨gs,0,none⟩) (a5_ HC.out.blk)).trans e0;have e1':=(hB4.cell (p:=⟨w.heap.size,0,none⟩) (a5_ HX.out)).trans e1))
 have hB34:Below wr.heap.size wr w4:=by first|exact hB4|exact bR_ hB4|exact eM_ hB4
 have HC4:=hd_ (HC.out.past hB34);have GB4:=hd_ (eZ_ GB.out hB34);have HX4:=hd_ (a6_ HX.out hB34);have HR4:=hd_ (a6_ HR.out hB34);have H74:=hd_ (a6_ H7.out hB34)
 have e2:=a1_ (j:=1) HX4.out
 simp at e2
 clear hB4 hB34 e0 e1 e0' e1' HC GB HX HR H7
 go_wp2_with (go_at_call 160;refine (HPUT1.out _ HC4.out.blk).mono ?_;rintro e w5 ⟨rfl,hB5⟩)
 first
 |
  refine j9_ (fun w6=>CS w0 gs gp bm W l w6/\w.grownBy w6 (some bm)/\w6.heap[w.heap.size]?=some (.cells #[.int .i64 (i:Nat),.int .i64 (col:Nat)] 173 (0,0))/\w6.heap[w.heap.size+1]?=some (.cells #[.int .i64 0,.int .i64 0,.int .i64 0] 170 (0,0))/\w6.heap[b7]?=some (.cells #[.int .i64 0,.int .i64 0,.int .i64 (-1)] 170 (0,0))/\w6.heap[w5.heap.size]?=some (.cells #[.int .i64 (ea1:Nat),.int .i64 (eb1:Nat)] 113 (0,0)))
   ⟨(HC4.out.past hB5).past (aE_),qU_ (eZ_ GB4.out hB5) _,(Below.heap_alloc _ _ _ (a5_ (a6_ HX4.out hB5))).trans (a6_ HX4.out hB5),(Below.heap_alloc _ _ _ (a5_ (a6_ HR4.out hB5))).trans (a6_ HR4.out hB5),(Below.heap_alloc _ _ _ (a5_ (a6_ H74.out hB5))).trans (a6_ H74.out hB5),aG_ rfl⟩ ?_
  exact dr50
  done
 |
  refine j9_ (fun w6=>CS w0 gs gp bm W l w6/\w.grownBy w6 (some bm)/\w6.heap[w.heap.size]?=some (.cells #[.int .i64 (i:Nat),.int .i64 (col:Nat)] 173 (0,0))/\w6.heap[w.heap.size+1]?=some (.cells #[.int .i64 0,.int .i64 0,.int .i64 0] 170 (0,0))/\w6.heap[b7]?=some (.cells #[.int .i64 (pa0:Nat),.int .i64 (pb0:Nat),.int .i64 0] 170 (0,0))/\w6.heap[w5.heap.size]?=some (.cells #[.int .i64 (ea1:Nat),.int .i64 (eb1:Nat)] 113 (0,0)))
   ⟨(HC4.out.past hB5).past (aE_),qU_ (eZ_ GB4.out hB5) _,(Below.heap_alloc _ _ _ (a5_ (a6_ HX4.out hB5))).trans (a6_ HX4.out hB5),(Below.heap_alloc _ _ _ (a5_ (a6_ HR4.out hB5))).trans (a6_ HR4.out hB5),(Below.heap_alloc _ _ _ (a5_ (a6_ H74.out hB5))).trans (a6_ H74.out hB5),aG_ rfl⟩ ?_
  exact dr50):P:=h
theorem dr47 (h:P:=by
 obtain ⟨rfl,hBx,hX,hR⟩:=hcut
 clear hlk hlk2 x0 x1 z0 q0 q2 HBX HWW
 go_wp2_with fail
 refine j9_ (fun w3=>Below w.heap.size w w3/\w3.heap[w.heap.size]?=some (.cells #[.int .i64 (i:Nat),.int .i64 (col:Nat)] 173 (0,0))/\w3.heap[w.heap.size+1]?=some (.cells #[.int .i64 0,.int .i64 0,.int .i64 0] 170 (0,0))/\w3.heap[wc.heap.size]?=some (.cells #[.int .i64 0,.int .i64 0,.int .i64 (-1)] 170 (0,0)))
  ⟨hBx.alloc hBx.size _,(Below.heap_alloc _ _ _ (a5_ hX)).trans hX,(Below.heap_alloc _ _ _ (a5_ hR)).trans hR,aG_ rfl⟩ ?_
 rintro w3 ⟨hB3,hX3,hR3,h73⟩
 obtain ⟨b7,hb7⟩:∃ b7,wc.heap.size=b7:=⟨_,rfl⟩
 rw [hb7] at h73 ⊢
 have hb7':w.heap.size+2<=b7:=by rw [← hb7];exact a5_ hR
 clear hb7 hX hR hBx
 have e0:=a1_ (j:=0) (HGS.out w3 hB3)
 have e1:=a1_ (j:=0) hX3
 simp at e0 e1
 go_region_held3 (fun w'=>w'.cell? ⟨gs,0,none⟩=some (.pointer (some ⟨gp,0,none⟩))/\w'.cell? ⟨w.heap.size,0,none⟩=some (.int .i64 (i:Nat)))
  (first|exact ⟨e0,e1⟩|exact ⟨e0',e1'⟩)
  ((go_at_call 159;refine (HPC.out _ (HPN1.out _ aF_).1 (HPN1.out _ aF_).2).mono ?_;rintro e w4 ⟨rfl,hB4⟩;have e0':=(hB4.cell (p:=⟨gs,0,none⟩) (a5_ (HGS.out w3 hB3))).trans e0;have e1':=(hB4.cell (p:=⟨w.heap.size,0,none⟩) (a5_ hX3)).trans e1))
 have hB34:Below w3.heap.size w3 w4:=by first|exact hB4|exact bR_ hB4|exact eM_ hB4
 have HC4:=hd_ (HCS.out.past (hB3.trans (hB34.mono hB3.size)))
 have GB4:=hd_ (jF_ (hB3.trans (hB34.mono hB3.size)) bm)
 have HX4:=hd_ (a6_ hX3 hB34)
 have HR4:=hd_ (a6_ hR3 hB34)
 have H74:=hd_ (a6_ h73 hB34)
 clear hB4 hB34 hB3 hX3 hR3 h73 e0 e1 e0' e1'
 go_wp2_with fail
 first
 |
  go_loopw [13] (fun s13 wr=>CS w0 gs gp bm W l wr/\w.grownBy wr (some bm)/\wr.heap[w.heap.size]?=some (.cells #[.int .i64 (i:Nat),.int .i64 (col:Nat)] 173 (0,0))/\wr.heap[w.heap.size+1]?=some (.cells #[.int .i64 0,.int .i64 0,.int .i64 0] 170 (0,0))/\((s13=.int .i64 0/\wr.heap[b7]?=some (.cells #[.int .i64 0,.int .i64 0,.int .i64 (-1)] 170 (0,0)))∨(s13=.int .i64 1/\wr.heap[b7]?=some (.cells #[.int .i64 (pa0:Nat),.int .i64 (pb0:Nat),.int .i64 0] 170 (0,0)))∨(s13=.int .i64 2/\wr.heap[b7]?=some (.cells #[.int .i64 (pa0:Nat),.int .i64 (pb0:Nat),.int .i64 0] 170 (0,0))))) (fun s13 _=>2-(intOf s13).toNat)
  case atStart=>exact ⟨HC4.out,GB4.out,HX4.out,HR4.out,.inl ⟨rfl,H74.out⟩⟩
  case round =>
   exact dr46
  done
 |
  go_loopw [13] (fun s13 wr=>CS w0 gs gp bm W l wr/\w.grownBy wr (some bm)/\wr.heap[w.heap.size]?=some (.cells #[.int .i64 (i:Nat),.int .i64 (col:Nat)] 173 (0,0))/\wr.heap[w.heap.size+1]?=some (.cells #[.int .i64 0,.int .i64 0,.int .i64 0] 170 (0,0))/\((s13=.int .i64 0/\wr.heap[b7]?=some (.cells #[.int .i64 0,.int .i64 0,.int .i64 (-1)] 170 (0,0)))∨(s13=.int .i64 1/\wr.heap[b7]?=some (.cells #[.int .i64 (pa0:Nat),.int .i64 (pb0:Nat),.int .i64 0] 170 (0,0)))∨(s13=.int .i64 2/\wr.heap[b7]?=some (.cells #[.int .i64 (pa1:Nat),.int .i64 (pb1:Nat),.int .i64 1] 170 (0,0))))) (fun s13 _=>2-(intOf s13).toNat)
  case atStart=>exact ⟨HC4.out,GB4.out,HX4.out,HR4.out,.inl ⟨rfl,H74.out⟩⟩
  case round =>
   exact dr46
  done
 |
  go_loopw [13] (fun s13 wr=>CS w0 gs gp bm W l wr/\w.grownBy wr (some bm)/\wr.heap[w.heap.size]?=some (.cells #[.int .i64 (i:Nat),.int .i64 (col:Nat)] 173 (0,0))/\wr.heap[w.heap.size+1]?=some (.cells #[.int .i64 0,.int .i64 0,.int .i64 0] 170 (0,0))/\((s13=.int .i64 0/\wr.heap[b7]?=some (.cells #[.int .i64 0,.int .i64 0,.int .i64 (-1)] 170 (0,0)))∨(s13=.int .i64 1/\wr.heap[b7]?=some (.cells #[.int .i64 0,.int .i64 0,.int .i64 (-1)] 170 (0,0)))∨(s13=.int .i64 2/\wr.heap[b7]?=some (.cells #[.int .i64 (pa1:Nat),.int .i64 (pb1:Nat),.int .i64 1] 170 (0,0))))) (fun s13 _=>2-(intOf s13).toNat)
  case atStart=>exact ⟨HC4.out,GB4.out,HX4.out,HR4.out,.inl ⟨rfl,H74.out⟩⟩
  case round =>
   obtain ⟨hcr,hgr,hxr,hrr,h7r⟩:=hrel
   have HC:=hd_ hcr;have GB:=hd_ hgr;have HX:=hd_ hxr;have HR:=hd_ hrr
   have HPW:Hid (∀ W',Below wr.heap.size wr W'->b9_ W' gp A c l/\Nds W' W'.heap.size A l):=hd_ (fun W' hb=>HPN.out W' (hcr.bel.trans (hb.mono hcr.bel.size)))
   clear hcr hgr hxr hrr HC4 GB4 HX4 HR4 H74
   rcases h7r with ⟨rfl,h7c⟩|⟨rfl,h7c⟩|⟨rfl,h7c⟩
   ·have H7:=hd_ h7c
    clear h7c
    have e0:=a1_ (j:=0) HC.out.blk
    have e1:=a1_ (j:=0) HX.out
    simp at e0 e1
    go_wp2_with fail
    go_region_held3 (fun w'=>w'.cell? ⟨gs,0,none⟩=some (.pointer (some ⟨gp,0,none⟩))/\w'.cell? ⟨w.heap.size,0,none⟩=some (.int .i64 (i:Nat)))
     (first|exact ⟨e0,e1⟩|exact ⟨e0',e1'⟩)
     ((refine ds3 ?_;intro w4 hB4 e0' e1'))
    have hB34:Below wr.heap.size wr w4:=by first|exact hB4|exact bR_ hB4|exact eM_ hB4
    go_wp2_with fail
    go_roundw
    case measure=>simp [intOf]
    case rel=>exact ⟨HC.out.past hB34,eZ_ GB.out hB34,a6_ HX.out hB34,a6_ HR.out hB34,.inr (.inl ⟨by first|rfl|go_num,a6_ H7.out hB34⟩)⟩
   ·have H7:=hd_ h7c
    exact dr51
   ·have H7:=hd_ h7c
    exact dr44):P:=h
theorem dr56 (h:P:=by
 obtain ⟨kl,hkl⟩:=r4_ (i:=i) (col:=col) om_ om_
 have HPC:=hd_ hpc;have HCH0:=hd_ hch0;have HCH1:=hd_ hch1;have HPUT1:=hd_ hput1;have HCP1:=hd_ hcp1;have HPL1:=hd_ hpl1;have HKN:=hd_ hkn
 first
 |
  clear hpc hch0 hch1 hput1 hcp1 hpl1 hkn
  exact dr48
  done
 |
  have HPUT0:=hd_ hput0;have HCP0:=hd_ hcp0;have HPL0:=hd_ hpl0
  clear hput0 hcp0 hpl0
  have HUN:=hd_ hun
  clear hun
  clear hpc hch0 hch1 hput1 hcp1 hpl1 hkn
  exact dr48):P:=h
theorem apZ_ {l:List Nd} (h400:l.length<=400) {gp:Nat} {A:Option Addr} {c:Nat} (w0:World) (hpl:b9_ w0 gp A c l) (hnl:Nds w0 w0.heap.size A l) {gs bm W:Nat} {i col:Nat} {w:World} (hcs:CS w0 gs gp bm W l w) (hcol:col<=2000000)
  {f:Value->Option Value} (hmf:dL_ Tryz.prog 173 f bm w) (hv:f (cM_ i col)=none) (hlt:i<l.length) {t0 t1:ByteArray} {i0 i1 ea1 eb1 col1 da1 db1 pa1 pb1:Nat} {ch1:Int}
  (hpc:∀ w,b9_ w gp A c l->Nds w w.heap.size A l->Calls Tryz.prog 159 #[.pointer (some ⟨gp,0,none⟩),.int .i64 i] w (Ret w (.tuple #[.string t1,.int .i64 (i:Nat),.bool true])))
  (hch0:∀ w,b9_ w gp A c l->Nds w w.heap.size A l->Calls Tryz.prog 162 #[.pointer (some ⟨gp,0,none⟩),.int .i64 i,.int .i64 0] w (Ret w (.tuple #[.string t0,.int .i64 (i0:Nat),.bool false])))
  (hch1:∀ w,b9_ w gp A c l->Nds w w.heap.size A l->Calls Tryz.prog 162 #[.pointer (some ⟨gp,0,none⟩),.int .i64 i,.int .i64 1] w (Ret w (.tuple #[.string t1,.int .i64 (i1:Nat),.bool true])))
  (hput1:∀ W':World,W'.heap[gs]?=some (.cells #[.pointer (some ⟨gp,0,none⟩),.int .i64 (W:Nat),.map (some bm)] 168 (0,0))->Calls Tryz.prog 160 #[.pointer (some ⟨gs,0,none⟩),.string t1,.int .i64 (col:Nat)] W' (Ret W' (.tuple #[.agg #[.int .i64 (ea1:Nat),.int .i64 (eb1:Nat)],.int .i64 (col1:Nat)])))
  (hcp1:∀ W':World,CS w0 gs gp bm W l W'->Calls Tryz.prog 90 #[.pointer (some ⟨gs,0,none⟩),.agg #[.int .i64 (i1:Nat),.int .i64 (col1:Nat)]] W' (fC_ w0 gs gp bm W l (.agg #[.int .i64 (da1:Nat),.int .i64 (db1:Nat),.int .i64 ch1]) W'))
  (hpl1:∀ W':World,Calls Tryz.prog 161 #[.agg #[.int .i64 (ea1:Nat),.int .i64 (eb1:Nat)],.agg #[.int .i64 (da1:Nat),.int .i64 (db1:Nat)]] W' (Ret W' (.agg #[.int .i64 (pa1:Nat),.int .i64 (pb1:Nat)])))
  (hkn:∀ f':Value->Option Value,dZ_ l W f'->dZ_ l W (hH_ f' (.agg #[.int .i64 (i:Nat),.int .i64 (col:Nat)]) (.agg #[.int .i64 (pa1:Nat),.int .i64 (pb1:Nat),.int .i64 1]))) :
  Calls Tryz.prog 90 #[.pointer (some ⟨gs,0,none⟩),cM_ i col] w (fC_ w0 gs gp bm W l (.agg #[.int .i64 (pa1:Nat),.int .i64 (pb1:Nat),.int .i64 1]) w):=by
 exact dr56
theorem dr45 (h:P:=by
 refine ds4 ?_;intro hB78
 refine ds5 ?_;intro gb7
 have HG8:=hd_ (eZ_ gb7 hB78)
 have HC8:=hd_ (HC7.out.past hB78)
 have hX8:=a6_ (dE_ HG7.out hX6 om_) hB78
 have hR8:=a6_ (dE_ HG7.out hR6 om_) hB78
 have h78:=a6_ (dE_ HG7.out h76 om_) hB78
 have h118:=a6_ h117 hB78
 clear f0 f1 f0' f1' f0'' f1'' k0 k1 hfld h117 HB8 HG7 HC7 gb7 hB78 hX6 hR6 h76 h116 HC6 HG6
 refine gI_ (fun w9=>CS w0 gs gp bm W l w9/\w.grownBy w9 (some bm)/\w9.heap[w.heap.size]?=some (.cells #[.int .i64 (i:Nat),.int .i64 (col:Nat)] 173 (0,0))/\w9.heap[w.heap.size+1]?=some (.cells #[.int .i64 0,.int .i64 0,.int .i64 0] 170 (0,0))/\w9.heap[b7]?=some (.cells #[.int .i64 (pa0:Nat),.int .i64 (pb0:Nat),.int .i64 0] 170 (0,0))/\w9.heap[b11]?=some (.cells #[.int .i64 (pa1:Nat),.int .i64 (pb1:Nat)] 113 (0,0)))
  ⟨HC8.out.set2_ om_ om_ (by have:=HCS.out.bel.size;omega) _ _,t8_ HG8.out om_ _ _,gD_ hX8 om_ _ _,gD_ hR8 om_ _ _,gD_ h78 om_ _ _,kJ_ h118⟩ ?_
 rintro w9 ⟨hC9,gb9,hX9,hR9,h79,h119⟩
 have HC9:=hd_ hC9;have GB9:=hd_ gb9;have HX9:=hd_ hX9;have HR9:=hd_ hR9;have H79:=hd_ h79;have H119:=hd_ h119
 clear hC9 gb9 hX9 hR9 h79 h119 hX8 hR8 h78 h118 HC8 HG8
 have m0:=a1_ (j:=0) H79.out
 have m1:=a1_ (j:=1) H79.out
 have m2:=a1_ (j:=2) H79.out
 have m3:=a1_ (j:=0) H119.out
 have m4:=a1_ (j:=1) H119.out
 have m5:=aS_ (j:=0) H79.out
 have m6:=aS_ (j:=1) H79.out
 have m7:=aS_ (j:=2) H79.out
 simp at m0 m1 m2 m3 m4
 go_wp2_with (go_at_call 163;refine (HUN.out _).mono ?_;rintro e w10 ⟨rfl,hB10⟩;have n3:=(hB10.cell (p:=⟨b11,0,none⟩) (a5_ H119.out)).trans m3;have n4:=(hB10.cell (p:=⟨b11,1,none⟩) (a5_ H119.out)).trans m4;have n0:=(hB10.cell (p:=⟨b7,0,none⟩) (a5_ H79.out)).trans m0;have n1:=(hB10.cell (p:=⟨b7,1,none⟩) (a5_ H79.out)).trans m1;have n2:=(hB10.cell (p:=⟨b7,2,none⟩) (a5_ H79.out)).trans m2;have n5:=(hB10.frozen (p:=⟨b7,0,none⟩) (a5_ H79.out)).trans m5;have n6:=(hB10.frozen (p:=⟨b7,1,none⟩) (a5_ H79.out)).trans m6;have n7:=(hB10.frozen (p:=⟨b7,2,none⟩) (a5_ H79.out)).trans m7)
 go_roundw
 case measure=>simp [intOf]
 first
 |
  case rel=>exact ⟨HC9.out.past hB10,eZ_ GB9.out hB10,a6_ HX9.out hB10,a6_ HR9.out hB10,.inr (.inr ⟨by first|rfl|go_num,a6_ H79.out hB10⟩)⟩
  done
 |
  case rel=>exact ⟨(HC9.out.past hB10).set3_ om_ om_ (by have:=HCS.out.bel.size;omega) _ _ _,iS_ (eZ_ GB9.out hB10) om_ _ _ _,h2_ (a6_ HX9.out hB10) om_ _ _ _,h2_ (a6_ HR9.out hB10) om_ _ _ _,.inr (.inr ⟨by first|rfl|go_num,eW_ (a6_ H79.out hB10)⟩)⟩):P:=h
theorem dr46 (h:P:=by
 obtain ⟨hcr,hgr,hxr,hrr,h7r⟩:=hrel
 have HC:=hd_ hcr;have GB:=hd_ hgr;have HX:=hd_ hxr;have HR:=hd_ hrr
 have HPW:Hid (∀ W',Below wr.heap.size wr W'->b9_ W' gp A c l/\Nds W' W'.heap.size A l):=hd_ (fun W' hb=>HPN.out W' (hcr.bel.trans (hb.mono hcr.bel.size)))
 clear hcr hgr hxr hrr HC4 GB4 HX4 HR4 H74
 rcases h7r with ⟨rfl,h7c⟩|⟨rfl,h7c⟩|⟨rfl,h7c⟩
 ·have H7:=hd_ h7c
  exact dr44
 ·have H7:=hd_ h7c
  exact dr51
 ·have H7:=hd_ h7c
  exact dr44):P:=h
theorem ae8_ {l:List Nd} (h400:l.length<=400) {gp:Nat} {A:Option Addr} {c:Nat} (w0:World) (hpl:b9_ w0 gp A c l) (hnl:Nds w0 w0.heap.size A l) {gs bm W:Nat} {i col:Nat} {w:World} (hcs:CS w0 gs gp bm W l w) (hcol:col<=2000000)
  {f:Value->Option Value} (hmf:dL_ Tryz.prog 173 f bm w) (hv:f (cM_ i col)=none) (hlt:i<l.length) {t0 t1:ByteArray} {i0 i1 ea0 eb0 col0 da0 db0 pa0 pb0 ea1 eb1 col1 da1 db1 pa1 pb1:Nat} {ch0 ch1:Int}
  (hpc:∀ w,b9_ w gp A c l->Nds w w.heap.size A l->Calls Tryz.prog 159 #[.pointer (some ⟨gp,0,none⟩),.int .i64 i] w (Ret w (.tuple #[.string t1,.int .i64 (i:Nat),.bool true])))
  (hch0:∀ w,b9_ w gp A c l->Nds w w.heap.size A l->Calls Tryz.prog 162 #[.pointer (some ⟨gp,0,none⟩),.int .i64 i,.int .i64 0] w (Ret w (.tuple #[.string t0,.int .i64 (i0:Nat),.bool true])))
  (hch1:∀ w,b9_ w gp A c l->Nds w w.heap.size A l->Calls Tryz.prog 162 #[.pointer (some ⟨gp,0,none⟩),.int .i64 i,.int .i64 1] w (Ret w (.tuple #[.string t1,.int .i64 (i1:Nat),.bool true])))
  (hput0:∀ W':World,W'.heap[gs]?=some (.cells #[.pointer (some ⟨gp,0,none⟩),.int .i64 (W:Nat),.map (some bm)] 168 (0,0))->Calls Tryz.prog 160 #[.pointer (some ⟨gs,0,none⟩),.string t0,.int .i64 (col:Nat)] W' (Ret W' (.tuple #[.agg #[.int .i64 (ea0:Nat),.int .i64 (eb0:Nat)],.int .i64 (col0:Nat)])))
  (hcp0:∀ W':World,CS w0 gs gp bm W l W'->Calls Tryz.prog 90 #[.pointer (some ⟨gs,0,none⟩),.agg #[.int .i64 (i0:Nat),.int .i64 (col0:Nat)]] W' (fC_ w0 gs gp bm W l (.agg #[.int .i64 (da0:Nat),.int .i64 (db0:Nat),.int .i64 ch0]) W'))
  (hpl0:∀ W':World,Calls Tryz.prog 161 #[.agg #[.int .i64 (ea0:Nat),.int .i64 (eb0:Nat)],.agg #[.int .i64 (da0:Nat),.int .i64 (db0:Nat)]] W' (Ret W' (.agg #[.int .i64 (pa0:Nat),.int .i64 (pb0:Nat)])))
  (hput1:∀ W':World,W'.heap[gs]?=some (.cells #[.pointer (some ⟨gp,0,none⟩),.int .i64 (W:Nat),.map (some bm)] 168 (0,0))->Calls Tryz.prog 160 #[.pointer (some ⟨gs,0,none⟩),.string t1,.int .i64 (col:Nat)] W' (Ret W' (.tuple #[.agg #[.int .i64 (ea1:Nat),.int .i64 (eb1:Nat)],.int .i64 (col1:Nat)])))
  (hcp1:∀ W':World,CS w0 gs gp bm W l W'->Calls Tryz.prog 90 #[.pointer (some ⟨gs,0,none⟩),.agg #[.int .i64 (i1:Nat),.int .i64 (col1:Nat)]] W' (fC_ w0 gs gp bm W l (.agg #[.int .i64 (da1:Nat),.int .i64 (db1:Nat),.int .i64 ch1]) W'))
  (hpl1:∀ W':World,Calls Tryz.prog 161 #[.agg #[.int .i64 (ea1:Nat),.int .i64 (eb1:Nat)],.agg #[.int .i64 (da1:Nat),.int .i64 (db1:Nat)]] W' (Ret W' (.agg #[.int .i64 (pa1:Nat),.int .i64 (pb1:Nat)])))
  (hun:∀ W':World,Calls Tryz.prog 163 #[.agg #[.int .i64 (pa1:Nat),.int .i64 (pb1:Nat)],.agg #[.int .i64 (pa0:Nat),.int .i64 (pb0:Nat)]] W' (Ret W' (.bool false)))
  (hkn:∀ f':Value->Option Value,dZ_ l W f'->dZ_ l W (hH_ f' (.agg #[.int .i64 (i:Nat),.int .i64 (col:Nat)]) (.agg #[.int .i64 (pa0:Nat),.int .i64 (pb0:Nat),.int .i64 0]))) :
  Calls Tryz.prog 90 #[.pointer (some ⟨gs,0,none⟩),cM_ i col] w (fC_ w0 gs gp bm W l (.agg #[.int .i64 (pa0:Nat),.int .i64 (pb0:Nat),.int .i64 0]) w):=by
 exact dr56
theorem aaW_ {l:List Nd} (h400:l.length<=400) {gp:Nat} {A:Option Addr} {c:Nat} (w0:World) (hpl:b9_ w0 gp A c l) (hnl:Nds w0 w0.heap.size A l) {gs bm W:Nat} {i col:Nat} {w:World} (hcs:CS w0 gs gp bm W l w) (hcol:col<=2000000)
  {f:Value->Option Value} (hmf:dL_ Tryz.prog 173 f bm w) (hv:f (cM_ i col)=none) (hlt:i<l.length) {t0 t1:ByteArray} {i0 i1 ea0 eb0 col0 da0 db0 pa0 pb0 ea1 eb1 col1 da1 db1 pa1 pb1:Nat} {ch0 ch1:Int}
  (hpc:∀ w,b9_ w gp A c l->Nds w w.heap.size A l->Calls Tryz.prog 159 #[.pointer (some ⟨gp,0,none⟩),.int .i64 i] w (Ret w (.tuple #[.string t1,.int .i64 (i:Nat),.bool true])))
  (hch0:∀ w,b9_ w gp A c l->Nds w w.heap.size A l->Calls Tryz.prog 162 #[.pointer (some ⟨gp,0,none⟩),.int .i64 i,.int .i64 0] w (Ret w (.tuple #[.string t0,.int .i64 (i0:Nat),.bool true])))
  (hch1:∀ w,b9_ w gp A c l->Nds w w.heap.size A l->Calls Tryz.prog 162 #[.pointer (some ⟨gp,0,none⟩),.int .i64 i,.int .i64 1] w (Ret w (.tuple #[.string t1,.int .i64 (i1:Nat),.bool true])))
  (hput0:∀ W':World,W'.heap[gs]?=some (.cells #[.pointer (some ⟨gp,0,none⟩),.int .i64 (W:Nat),.map (some bm)] 168 (0,0))->Calls Tryz.prog 160 #[.pointer (some ⟨gs,0,none⟩),.string t0,.int .i64 (col:Nat)] W' (Ret W' (.tuple #[.agg #[.int .i64 (ea0:Nat),.int .i64 (eb0:Nat)],.int .i64 (col0:Nat)])))
  (hcp0:∀ W':World,CS w0 gs gp bm W l W'->Calls Tryz.prog 90 #[.pointer (some ⟨gs,0,none⟩),.agg #[.int .i64 (i0:Nat),.int .i64 (col0:Nat)]] W' (fC_ w0 gs gp bm W l (.agg #[.int .i64 (da0:Nat),.int .i64 (db0:Nat),.int .i64 ch0]) W'))
  (hpl0:∀ W':World,Calls Tryz.prog 161 #[.agg #[.int .i64 (ea0:Nat),.int .i64 (eb0:Nat)],.agg #[.int .i64 (da0:Nat),.int .i64 (db0:Nat)]] W' (Ret W' (.agg #[.int .i64 (pa0:Nat),.int .i64 (pb0:Nat)])))
  (hput1:∀ W':World,W'.heap[gs]?=some (.cells #[.pointer (some ⟨gp,0,none⟩),.int .i64 (W:Nat),.map (some bm)] 168 (0,0))->Calls Tryz.prog 160 #[.pointer (some ⟨gs,0,none⟩),.string t1,.int .i64 (col:Nat)] W' (Ret W' (.tuple #[.agg #[.int .i64 (ea1:Nat),.int .i64 (eb1:Nat)],.int .i64 (col1:Nat)])))
  (hcp1:∀ W':World,CS w0 gs gp bm W l W'->Calls Tryz.prog 90 #[.pointer (some ⟨gs,0,none⟩),.agg #[.int .i64 (i1:Nat),.int .i64 (col1:Nat)]] W' (fC_ w0 gs gp bm W l (.agg #[.int .i64 (da1:Nat),.int .i64 (db1:Nat),.int .i64 ch1]) W'))
  (hpl1:∀ W':World,Calls Tryz.prog 161 #[.agg #[.int .i64 (ea1:Nat),.int .i64 (eb1:Nat)],.agg #[.int .i64 (da1:Nat),.int .i64 (db1:Nat)]] W' (Ret W' (.agg #[.int .i64 (pa1:Nat),.int .i64 (pb1:Nat)])))
  (hun:∀ W':World,Calls Tryz.prog 163 #[.agg #[.int .i64 (pa1:Nat),.int .i64 (pb1:Nat)],.agg #[.int .i64 (pa0:Nat),.int .i64 (pb0:Nat)]] W' (Ret W' (.bool true)))
  (hkn:∀ f':Value->Option Value,dZ_ l W f'->dZ_ l W (hH_ f' (.agg #[.int .i64 (i:Nat),.int .i64 (col:Nat)]) (.agg #[.int .i64 (pa1:Nat),.int .i64 (pb1:Nat),.int .i64 1]))) :
  Calls Tryz.prog 90 #[.pointer (some ⟨gs,0,none⟩),cM_ i col] w (fC_ w0 gs gp bm W l (.agg #[.int .i64 (pa1:Nat),.int .i64 (pb1:Nat),.int .i64 1]) w):=by
 exact dr56
end
end Go.Proofs.YtddfdmopaeghnadGreatDoor
