/- Plain facts on laying docs by choices: more choices, deeper, all ways. With what it rests on. Conditions: as each theorem states them. -/
import Derived.Test.YtddfdmopaeghnacGreatDoorLqWp
import Derived.Laws.Closers25
import Derived.Below
import Derived.Test.YtddfdmopaeghnacGreatDoorLqOp
import Derived.Test.YtddfdmopaeghnacGreatDoorLqSh
import Derived.BigQuiet
import Derived.Deep.QuietTactic
import Derived.IntWalk
import Derived.Deep.RegionHeld3
import Derived.Laws.Concat
import Derived.Laws.ResultCell
import Derived.Maps.OwnOps
import Derived.DeepKeys4
set_option maxRecDepth 100000
set_option maxHeartbeats 16000000
namespace Go.Proofs.YtddfdmopaeghnacGreatDoor
theorem D.lay_more {x:D}:∀ {dp:Int} {w r v:List Int} {s:ByteArray},x.lay dp w=.ok (s,r)->x.lay dp (w++v)=.ok (s,r++v):=by
 induction x with
 | leaf d =>
  intro dp w r v s h
  simp only [D.lay] at h ⊢
  by_cases h1:d.op=1
  ·rw [if_pos h1] at h ⊢;cases h;rfl
  ·rw [if_neg h1] at h ⊢
   by_cases h5:d.op=5
   ·rw [if_pos h5] at h ⊢;cases h;rfl
   ·rw [if_neg h5] at h ⊢;cases h;rfl
 | un d a ih =>
  intro dp w r v s h
  simp only [D.lay] at h ⊢
  by_cases h7:d.op=7
  ·rw [if_pos h7] at h ⊢;exact ih h
  ·rw [if_neg h7] at h ⊢
   cases w with
   | nil=>cases h
   | cons c w' =>
    simp only [List.cons_append] at h ⊢
    by_cases hc:c=0
    ·rw [if_pos hc] at h ⊢
     cases hf:a.flat with
     | none=>rw [hf] at h;cases h
     | some t=>rw [hf] at h;cases h;rfl
    ·rw [if_neg hc] at h ⊢;exact ih h
 | bin d a b ia ib =>
  intro dp w r v s h
  simp only [D.lay] at h ⊢
  by_cases h6:d.op=6
  ·rw [if_pos h6] at h ⊢
   cases ha:a.lay (dp+d.n) w with
   | error e=>rw [ha] at h;cases h
   | ok p =>
    obtain ⟨s1,w1⟩:=p
    rw [ha] at h
    rw [ia ha]
    simp only at h ⊢
    cases hb:b.lay (dp+d.n) w1 with
    | error e=>rw [hb] at h;cases h
    | ok q =>
     obtain ⟨s2,w2⟩:=q
     rw [hb] at h
     rw [ib hb]
     cases h;rfl
  ·rw [if_neg h6] at h ⊢
   cases w with
   | nil=>cases h
   | cons c w' =>
    simp only [List.cons_append] at h ⊢
    by_cases hc:c=0
    ·rw [if_pos hc] at h ⊢;exact ia h
    ·rw [if_neg hc] at h ⊢;exact ib h
def D.good (x:D):Prop:=∀ d ∈ x.enc,cE_ d.op d.text d.n=0
theorem sB_ {d:Nd} (h:cE_ d.op d.text d.n=0) (h1:d.op=1):∀ c ∈ d.text.data.toList,c≠10:=by
 unfold cE_ at h
 rw [if_neg (by omega)] at h
 split at h
 ·cases h
 ·split at h
  ·cases h
  ·rename_i hh
   have hp:dY_ d.text=true:=by
    cases hp:dY_ d.text with
    | true=>rfl
    | false=>exact absurd ⟨h1,.inr (.inr hp)⟩ hh
   intro c hc e
   have:=List.all_eq_true.1 hp c hc
   subst e
   revert this;decide
theorem nD_ {d:Nd} (h:cE_ d.op d.text d.n=0):d.text.size<=20:=by
 by_cases h1:d.op=1
 ·unfold cE_ at h
  rw [if_neg (by omega)] at h
  split at h
  ·cases h
  ·split at h
   ·cases h
   ·rename_i hh
    rcases Nat.lt_or_ge 20 d.text.size with h2|h2
    ·exact absurd ⟨h1,.inr (.inl h2)⟩ hh
    ·exact h2
 ·unfold cE_ at h
  split at h
  ·cases h
  ·split at h
   ·cases h
   ·rename_i hh
    have ht:d.text.toList=[]:=by
     cases ht:d.text.toList with
     | nil=>rfl
     | cons a r=>exact absurd (.inl ⟨h1,by rw [ht];simp⟩) hh
    rw [ByteArray.toList_eq] at ht
    have h0:d.text.data.toList.length=0:=by rw [ht];rfl
    have h1:d.text.data.toList.length=d.text.size:=by simp
    omega
theorem D.good_un {d:Nd} {a:D} (h:(D.un d a).good):a.good:=fun e he=>h e (by simp [D.enc,he])
theorem D.good_l {d:Nd} {a b:D} (h:(D.bin d a b).good):a.good:=fun e he=>h e (by simp [D.enc,he])
theorem D.good_r {d:Nd} {a b:D} (h:(D.bin d a b).good):b.good:=fun e he=>h e (by simp [D.enc,he])
theorem D.flat_no {x:D}:∀ {s:ByteArray},x.good->x.flat=some s->∀ c ∈ s.data.toList,c≠10:=by
 induction x with
 | leaf d =>
  intro s hg h
  simp only [D.flat] at h
  split at h
  ·rename_i h1;cases h;exact sB_ (hg d (by simp [D.enc])) h1
  ·split at h
   ·cases h;intro c hc;simp at hc;subst hc;decide
   ·split at h
    ·cases h;intro c hc;simp at hc
    ·cases h
 | un d a ih=>intro s hg h;exact ih (D.good_un hg) h
 | bin d a b ia ib =>
  intro s hg h
  simp only [D.flat] at h
  split at h
  ·cases ha:a.flat with
   | none=>rw [ha] at h;simp at h
   | some p =>
    cases hb:b.flat with
    | none=>rw [ha,hb] at h;simp at h
    | some q =>
     rw [ha,hb] at h
     simp only [Option.some.injEq] at h
     subst h
     intro c hc
     simp only [ByteArray.data_append,Array.toList_append,List.mem_append] at hc
     rcases hc with hc|hc
     ·exact ia (D.good_l hg) ha c hc
     ·exact ib (D.good_r hg) hb c hc
  ·exact ia (D.good_l hg) h
theorem lq29 {P:Prop} (h:P:=by
 induction y with
 | leaf d =>
  intro hg t ht
  have:=nD_ (hg d (by simp [D.enc]))
  simp only [D.flat] at ht
  split at ht
  ·cases ht;simp only [D.sz];omega
  ·split at ht
   ·cases ht;simp [ByteArray.size,D.sz]
   ·split at ht
    ·cases ht;simp
    ·cases ht
 | un d a ih=>intro hg t ht;have:=ih (D.good_un hg) t ht;simp only [D.sz];omega
 | bin d a b ia ib =>
  intro hg t ht
  simp only [D.flat] at ht
  split at ht
  ·cases ha:a.flat with
   | none=>rw [ha] at ht;simp at ht
   | some p =>
    cases hb:b.flat with
    | none=>rw [ha,hb] at ht;simp at ht
    | some q =>
     rw [ha,hb] at ht
     simp only [Option.some.injEq] at ht
     subst ht
     have h1:=ia (D.good_l hg) p ha
     have h2:=ib (D.good_r hg) q hb
     rw [ByteArray.size_append]
     simp only [D.sz];omega
  ·have:=ia (D.good_l hg) t ht;simp only [D.sz];omega):P:=h
theorem D.lay_size {x:D}:∀ {dp:Int} {w r:List Int} {s:ByteArray},x.good->0<=dp->x.lay dp w=.ok (s,r)->s.size<=x.sz*(21+(dp.toNat+8*x.sz)):=by
 have flat_sz:∀ y:D,y.good->∀ t,y.flat=some t->t.size<=20*y.sz:=by
  intro y
  exact lq29
 have key:∀ {y:D} {m:Nat} {dp:Int} {w r:List Int} {s:ByteArray},y.good->0<=dp->dp.toNat+8*y.sz<=m->y.lay dp w=.ok (s,r)->s.size<=y.sz*(21+m):=by
  intro y
  induction y with
  | leaf d =>
   intro m dp w r s hg hd hm h
   have:=nD_ (hg d (by simp [D.enc]))
   simp only [D.lay] at h
   simp only [D.sz] at hm ⊢
   split at h
   ·cases h;omega
   ·split at h
    ·cases h;simp
    ·cases h
     rw [ByteArray.size_append]
     simp [ByteArray.size,bL_]
     omega
  | un d a ih =>
   intro m dp w r s hg hd hm h
   have hn:=v1_ (hg d (by simp [D.enc]))
   simp only [D.lay] at h
   simp only [D.sz] at hm ⊢
   have hmul:(a.sz+1)*(21+m)=a.sz*(21+m)+(21+m):=by rw [Nat.add_mul,Nat.one_mul]
   split at h
   ·have:=ih (m:=m) (D.good_un hg) (by omega) (by omega) h;omega
   ·cases w with
    | nil=>cases h
    | cons c w' =>
     simp only at h
     split at h
     ·cases hf:a.flat with
      | none=>rw [hf] at h;cases h
      | some t =>
       rw [hf] at h;cases h
       have h1:=flat_sz a (D.good_un hg) s hf
       have h2:20*a.sz<=a.sz*(21+m):=by rw [Nat.mul_comm];exact Nat.mul_le_mul_left _ (by omega)
       omega
     ·have:=ih (m:=m) (D.good_un hg) (by omega) (by omega) h;omega
  | bin d a b ia ib =>
   intro m dp w r s hg hd hm h
   have hn:=v1_ (hg d (by simp [D.enc]))
   simp only [D.lay] at h
   simp only [D.sz] at hm ⊢
   have hmul:(a.sz+b.sz+1)*(21+m)=a.sz*(21+m)+b.sz*(21+m)+(21+m):=by rw [Nat.add_mul,Nat.add_mul,Nat.one_mul]
   split at h
   ·cases ha:a.lay (dp+d.n) w with
    | error e=>rw [ha] at h;cases h
    | ok p =>
     obtain ⟨s1,w1⟩:=p
     rw [ha] at h
     simp only at h
     cases hb:b.lay (dp+d.n) w1 with
     | error e=>rw [hb] at h;cases h
     | ok q =>
      obtain ⟨s2,w2⟩:=q
      rw [hb] at h
      cases h
      have h1:=ia (m:=m) (D.good_l hg) (by omega) (by omega) ha
      have h2:=ib (m:=m) (D.good_r hg) (by omega) (by omega) hb
      rw [ByteArray.size_append]
      omega
   ·cases w with
    | nil=>cases h
    | cons c w' =>
     simp only at h
     split at h
     ·have:=ia (m:=m) (D.good_l hg) (by omega) (by omega) h;omega
     ·have:=ib (m:=m) (D.good_r hg) (by omega) (by omega) h;omega
 intro dp w r s hg hd h
 exact key hg hd (Nat.le_refl _) h
end Go.Proofs.YtddfdmopaeghnacGreatDoor
namespace Go.Proofs.YtddfdmopaeghnacGreatDoor
def D.ways:D->List (List Int)
 | .leaf _=>[[]]
 | .un d a=>if d.op=7 then a.ways else (if a.flat.isSome=true then [[0]] else [])++a.ways.map (1::·)
 | .bin d a b=>if d.op=6 then a.ways.flatMap (fun u=>b.ways.map (u++·)) else a.ways.map (0::·)++b.ways.map (1::·)
def Bits (w:List Int):Prop:=∀ c ∈ w,c=0∨c=1
theorem D.ways_bits {x:D}:∀ u ∈ x.ways,Bits u:=by
 induction x with
 | leaf d=>intro u hu;simp [D.ways] at hu;subst hu;intro c hc;cases hc
 | un d a ih =>
  intro u hu
  simp only [D.ways] at hu
  split at hu
  ·exact ih u hu
  ·rcases List.mem_append.1 hu with hu|hu
   ·split at hu
    ·simp at hu;subst hu;intro c hc;simp at hc;exact .inl hc
    ·cases hu
   ·obtain ⟨v,hv,rfl⟩:=List.mem_map.1 hu
    intro c hc
    rcases List.mem_cons.1 hc with rfl|hc
    ·exact .inr rfl
    ·exact ih v hv c hc
 | bin d a b ia ib =>
  intro u hu
  simp only [D.ways] at hu
  split at hu
  ·obtain ⟨v,hv,hu⟩:=List.mem_flatMap.1 hu
   obtain ⟨z,hz,rfl⟩:=List.mem_map.1 hu
   intro c hc
   rcases List.mem_append.1 hc with hc|hc
   ·exact ia v hv c hc
   ·exact ib z hz c hc
  ·rcases List.mem_append.1 hu with hu|hu
   ·obtain ⟨v,hv,rfl⟩:=List.mem_map.1 hu
    intro c hc
    rcases List.mem_cons.1 hc with rfl|hc
    ·exact .inl rfl
    ·exact ia v hv c hc
   ·obtain ⟨v,hv,rfl⟩:=List.mem_map.1 hu
    intro c hc
    rcases List.mem_cons.1 hc with rfl|hc
    ·exact .inr rfl
    ·exact ib v hv c hc
theorem D.ways_ne {x:D}:x.ways≠[]:=by
 induction x with
 | leaf d=>simp [D.ways]
 | un d a ih =>
  simp only [D.ways]
  split
  ·exact ih
  ·simp [ih]
 | bin d a b ia ib =>
  simp only [D.ways]
  split
  ·intro h
   rw [List.flatMap_eq_nil_iff] at h
   cases ha:a.ways with
   | nil=>exact ia ha
   | cons u r =>
    have:=h u (by rw [ha];simp)
    simp [ib] at this
  ·simp [ia]
theorem D.lay_way {x:D}:∀ {dp:Int} {u:List Int},u ∈ x.ways->∃ s,x.lay dp u=.ok (s,[]):=by
 induction x with
 | leaf d =>
  intro dp u hu
  simp [D.ways] at hu;subst hu
  simp only [D.lay]
  split
  ·exact ⟨_,rfl⟩
  ·split <;> exact ⟨_,rfl⟩
 | un d a ih =>
  intro dp u hu
  simp only [D.ways] at hu
  simp only [D.lay]
  by_cases h7:d.op=7
  ·rw [if_pos h7] at hu ⊢;exact ih hu
  ·rw [if_neg h7] at hu ⊢
   rcases List.mem_append.1 hu with hu|hu
   ·split at hu
    ·rename_i hf
     simp at hu;subst hu
     simp only [if_true]
     cases h:a.flat with
     | none=>rw [h] at hf;cases hf
     | some s=>exact ⟨s,rfl⟩
    ·cases hu
   ·obtain ⟨v,hv,rfl⟩:=List.mem_map.1 hu
    simp only
    rw [if_neg (by decide)]
    exact ih hv
 | bin d a b ia ib =>
  intro dp u hu
  simp only [D.ways] at hu
  simp only [D.lay]
  by_cases h6:d.op=6
  ·rw [if_pos h6] at hu ⊢
   obtain ⟨v,hv,hu⟩:=List.mem_flatMap.1 hu
   obtain ⟨z,hz,rfl⟩:=List.mem_map.1 hu
   obtain ⟨s,hs⟩:=ia (dp:=dp+d.n) hv
   obtain ⟨t,ht⟩:=ib (dp:=dp+d.n) hz
   rw [D.lay_more hs]
   simp only [List.nil_append]
   rw [ht]
   exact ⟨_,rfl⟩
  ·rw [if_neg h6] at hu ⊢
   rcases List.mem_append.1 hu with hu|hu
   ·obtain ⟨v,hv,rfl⟩:=List.mem_map.1 hu
    simp only
    rw [if_pos trivial]
    exact ia hv
   ·obtain ⟨v,hv,rfl⟩:=List.mem_map.1 hu
    simp only
    rw [if_neg (by decide)]
    exact ib hv
theorem D.way_of {x:D}:∀ {dp:Int} {w r:List Int} {s:ByteArray},Bits w->x.lay dp w=.ok (s,r)->∃ u,u ∈ x.ways/\w=u++r/\x.lay dp u=.ok (s,[]):=by
 induction x with
 | leaf d =>
  intro dp w r s _ h
  refine ⟨[],by simp [D.ways], ?_⟩
  simp only [D.lay] at h ⊢
  by_cases h1:d.op=1
  ·rw [if_pos h1] at h ⊢;cases h;exact ⟨rfl,rfl⟩
  ·rw [if_neg h1] at h ⊢
   by_cases h5:d.op=5
   ·rw [if_pos h5] at h ⊢;cases h;exact ⟨rfl,rfl⟩
   ·rw [if_neg h5] at h ⊢;cases h;exact ⟨rfl,rfl⟩
 | un d a ih =>
  intro dp w r s hb h
  simp only [D.lay] at h
  simp only [D.ways,D.lay]
  by_cases h7:d.op=7
  ·rw [if_pos h7] at h ⊢
   obtain ⟨u,h1,h2,h3⟩:=ih hb h
   exact ⟨u,h1,h2,by rw [if_pos h7];exact h3⟩
  ·rw [if_neg h7] at h ⊢
   cases w with
   | nil=>cases h
   | cons c w' =>
    simp only at h
    by_cases hc:c=0
    ·rw [if_pos hc] at h
     cases hf:a.flat with
     | none=>rw [hf] at h;cases h
     | some t =>
      rw [hf] at h;cases h
      refine ⟨[0],List.mem_append_left _ (by simp),by rw [hc];rfl, ?_⟩
      rw [if_neg h7];rfl
    ·rw [if_neg hc] at h
     have hc1:c=1:=by have:=hb c (by simp);omega
     obtain ⟨u,h1,h2,h3⟩:=ih (fun y hy=>hb y (by simp [hy])) h
     refine ⟨1::u,List.mem_append_right _ (List.mem_map_of_mem h1),by rw [hc1,h2];rfl, ?_⟩
     rw [if_neg h7];simp only;rw [if_neg (by decide)];exact h3
 | bin d a b ia ib =>
  intro dp w r s hb h
  simp only [D.lay] at h
  simp only [D.ways,D.lay]
  by_cases h6:d.op=6
  ·rw [if_pos h6] at h ⊢
   cases ha:a.lay (dp+d.n) w with
   | error e=>rw [ha] at h;cases h
   | ok p =>
    obtain ⟨s1,w1⟩:=p
    rw [ha] at h
    simp only at h
    cases hbb:b.lay (dp+d.n) w1 with
    | error e=>rw [hbb] at h;cases h
    | ok q =>
     obtain ⟨s2,w2⟩:=q
     rw [hbb] at h
     cases h
     obtain ⟨u,h1,h2,h3⟩:=ia hb ha
     obtain ⟨v,g1,g2,g3⟩:=ib (fun y hy=>hb y (by rw [h2];simp [hy])) hbb
     refine ⟨u++v,List.mem_flatMap.2 ⟨u,h1,List.mem_map_of_mem g1⟩,by rw [h2,g2,List.append_assoc], ?_⟩
     rw [if_pos h6,D.lay_more h3]
     simp only [List.nil_append]
     rw [g3]
  ·rw [if_neg h6] at h ⊢
   cases w with
   | nil=>cases h
   | cons c w' =>
    simp only at h
    by_cases hc:c=0
    ·rw [if_pos hc] at h
     obtain ⟨u,h1,h2,h3⟩:=ia (fun y hy=>hb y (by simp [hy])) h
     refine ⟨0::u,List.mem_append_left _ (List.mem_map_of_mem h1),by rw [hc,h2];rfl, ?_⟩
     rw [if_neg h6];simp only;rw [if_pos trivial];exact h3
    ·rw [if_neg hc] at h
     have hc1:c=1:=by have:=hb c (by simp);omega
     obtain ⟨u,h1,h2,h3⟩:=ib (fun y hy=>hb y (by simp [hy])) h
     refine ⟨1::u,List.mem_append_right _ (List.mem_map_of_mem h1),by rw [hc1,h2];rfl, ?_⟩
     rw [if_neg h6];simp only;rw [if_neg (by decide)];exact h3
end Go.Proofs.YtddfdmopaeghnacGreatDoor
namespace Go.Proofs.YtddfdmopaeghnacGreatDoor
theorem Rep.uniq {l:List Nd} {i:Nat} {K:List (D × Int)} (h:Rep l i K):∀ {K'},Rep l i K'->K=K':=by
 induction h with
 | done =>
  intro K' h'
  exact (h'.ge (Nat.le_refl _)).1.symm
 | at_ i K hi _ ih =>
  intro K' h'
  obtain ⟨K2,e,hr⟩:=h'.lt hi
  rw [e,ih hr]
open Classical in
noncomputable def hZ_ (l:List Nd) (i:Nat):Nat:=if h:∃ K,Rep l i K then szK h.choose else 0
theorem s1_ {l:List Nd} {i:Nat} {K:List (D × Int)} (h:Rep l i K):hZ_ l i=szK K:=by
 have hex:∃ K,Rep l i K:=⟨K,h⟩
 unfold hZ_
 rw [dif_pos hex,h.uniq hex.choose_spec]
theorem ahO_ {l:List Nd} {i:Nat} {K:List (D × Int)} (h:Rep l i K) (hi:i<l.length):0<szK K:=by
 obtain ⟨K',rfl,_⟩:=h.lt hi
 have:=(a6_ l i).sz_pos
 simp only [szK];omega
def hX_ (l:List Nd) (_i:Nat) (K:List (D × Int)) (txt:ByteArray) (i':Nat) (K':List (D × Int)):Prop :=
 Rep l i' K'/\szK K'<szK K/\txt.size+3300*szK K'<=3300*szK K/\∀ ws acc,d9_ K ws acc=d9_ K' ws (acc++txt)
theorem iW_ (a:ByteArray):a++ByteArray.empty=a:=by simp
theorem Doc.leaf_ {l:List Nd} {x:D} (hd:Doc l x) {i:Nat} (hi:i<l.length) (hp:parts l[i].op=0):a6_ l i=.leaf l[i]:=by
 rcases hd.parts_ hi with ⟨_,h⟩|⟨h,_⟩|⟨h,_⟩
 ·exact h
 ·omega
 ·omega
theorem acB_ {l:List Nd} {x:D} (hd:Doc l x) {i:Nat} {K:List (D × Int)} {t:ByteArray} {n:Int} (hr:Rep l i K) (hi:i<l.length) (hnd:l[i]=⟨1,t,n⟩):∃ K',hX_ l i K t (b6_ l i) K':=by
 obtain ⟨K',rfl,hr'⟩:=hr.lt hi
 have hlf:=hd.leaf_ hi (by rw [hnd];rfl)
 have hone:=hd.one _ (List.getElem_mem hi)
 rw [hnd] at hone
 have hsz:=nD_ (d:=⟨1,t,n⟩) hone
 simp only at hsz
 refine ⟨K',hr',by rw [hlf];simp only [szK,D.sz];omega,by rw [hlf];simp only [szK,D.sz];omega,fun ws acc=>?_⟩
 rw [hlf,hnd]
 simp only [d9_,D.lay,if_true]
theorem acC_ {l:List Nd} {x:D} (hd:Doc l x) {i:Nat} {K:List (D × Int)} {t:ByteArray} {n:Int} (hr:Rep l i K) (hi:i<l.length) (hnd:l[i]=⟨5,t,n⟩):∃ K',hX_ l i K .empty (b6_ l i) K':=by
 obtain ⟨K',rfl,hr'⟩:=hr.lt hi
 have hlf:=hd.leaf_ hi (by rw [hnd];rfl)
 refine ⟨K',hr',by rw [hlf];simp only [szK,D.sz];omega,by rw [hlf];simp only [szK,D.sz,ByteArray.size_empty];omega,fun ws acc=>?_⟩
 rw [hlf,hnd]
 rfl
theorem nS_ {l:List Nd} {x:D} (hd:Doc l x) {i:Nat} {K:List (D × Int)} {op:Int} {t:ByteArray} {n:Int} (hr:Rep l i K) (hi:i<l.length) (hnd:l[i]=⟨op,t,n⟩) (ho:op=2∨op=3∨op=4) :
  ∃ K',hX_ l i K (⟨#[10]⟩++bL_ (bB_ l i).toNat) (b6_ l i) K':=by
 obtain ⟨K',rfl,hr'⟩:=hr.lt hi
 have hp0:parts l[i].op=0:=by rw [hnd];rcases ho with rfl|rfl|rfl <;> rfl
 have hlf:=hd.leaf_ hi hp0
 have hdb:=hd.deep_bd i hi
 have h4:=hd.len
 have hbz:(⟨#[10]⟩++bL_ (bB_ l i).toNat:ByteArray).size<=3300:=by
  rw [ByteArray.size_append]
  have e1:(⟨#[10]⟩:ByteArray).size=1:=rfl
  have e2:(bL_ (bB_ l i).toNat).size=(bB_ l i).toNat:=by simp [bL_,ByteArray.size]
  rw [e1,e2];omega
 refine ⟨K',hr',by rw [hlf];simp only [szK,D.sz];omega,by rw [hlf];simp only [szK,D.sz];omega,fun ws acc=>?_⟩
 rw [hlf,hnd]
 rcases ho with rfl|rfl|rfl <;> rfl
theorem ac9_ {l:List Nd} {x:D} (hd:Doc l x) {i:Nat} {K:List (D × Int)} {t:ByteArray} {n:Int} (hr:Rep l i K) (hi:i<l.length) (hnd:l[i]=⟨6,t,n⟩):∃ K',hX_ l i K .empty (i+1) K':=by
 obtain ⟨K',rfl,hr'⟩:=hr.lt hi
 have h6:l[i].op=6:=by rw [hnd]
 have hp2:parts l[i].op=2:=by rw [hnd];rfl
 obtain ⟨_,_,hdo,_⟩:=hd.plan_bin hi hp2
 refine ⟨_,Rep.both hd hi h6 hr',by rw [hdo];simp only [szK,D.sz];omega,by rw [hdo];simp only [szK,D.sz,ByteArray.size_empty];omega,fun ws acc=>?_⟩
 rw [hdo,aaZ_ h6,iW_]
theorem acA_ {l:List Nd} {x:D} (hd:Doc l x) {i:Nat} {K:List (D × Int)} {t:ByteArray} {n:Int} (hr:Rep l i K) (hi:i<l.length) (hnd:l[i]=⟨7,t,n⟩):∃ K',hX_ l i K .empty (i+1) K':=by
 obtain ⟨K',rfl,hr'⟩:=hr.lt hi
 have h7:l[i].op=7:=by rw [hnd]
 have hp1:parts l[i].op=1:=by rw [hnd];rfl
 obtain ⟨_,hdo,_⟩:=hd.plan_un hi hp1
 refine ⟨_,Rep.un hd hi hp1 hr',by rw [hdo];simp only [szK,D.sz];omega,by rw [hdo];simp only [szK,D.sz,ByteArray.size_empty];omega,fun ws acc=>?_⟩
 rw [hdo,iW_]
 simp only [d9_,D.lay,h7,if_true]
def pE_ (l:List Nd) (_i:Nat) (K:List (D × Int)) (c:Int) (txt:ByteArray) (i':Nat) (K':List (D × Int)):Prop :=
 Rep l i' K'/\szK K'<szK K/\txt.size+3300*szK K'<=3300*szK K/\∀ ws acc,d9_ K (c::ws) acc=d9_ K' ws (acc++txt)
theorem oO_ {l:List Nd} {x:D} (hd:Doc l x) {i:Nat} {K:List (D × Int)} {t:ByteArray} {n c:Int} (hr:Rep l i K) (hi:i<l.length) (hnd:l[i]=⟨9,t,n⟩) (hc:c=0∨c=1):∃ K',pE_ l i K c .empty (if c=0 then i+1 else bJ_ l (i+1)) K':=by
 obtain ⟨K',rfl,hr'⟩:=hr.lt hi
 have h9:l[i].op=9:=by rw [hnd]
 have hp2:parts l[i].op=2:=by rw [hnd];rfl
 obtain ⟨_,_,hdo,_⟩:=hd.plan_bin hi hp2
 rcases hc with rfl|rfl
 ·refine ⟨_,Rep.either hd hi h9 hr',by rw [hdo];simp only [szK,D.sz];omega,by rw [hdo];simp only [szK,D.sz,ByteArray.size_empty];omega,fun ws acc=>?_⟩
  rw [hdo,iW_]
  simp only [d9_,D.lay,h9,if_true]
  rfl
 ·refine ⟨_,Rep.bin hd hi hp2 hr',by rw [hdo];simp only [szK,D.sz];omega,by rw [hdo];simp only [szK,D.sz,ByteArray.size_empty];omega,fun ws acc=>?_⟩
  rw [hdo,iW_]
  simp only [d9_,D.lay,h9]
  rfl
theorem z7_ {l:List Nd} {x:D} (hd:Doc l x) {i:Nat} {K:List (D × Int)} {t:ByteArray} {n:Int} (hr:Rep l i K) (hi:i<l.length) (hnd:l[i]=⟨8,t,n⟩):∃ K',pE_ l i K 1 .empty (i+1) K':=by
 obtain ⟨K',rfl,hr'⟩:=hr.lt hi
 have h8:l[i].op=8:=by rw [hnd]
 have hp1:parts l[i].op=1:=by rw [hnd];rfl
 obtain ⟨_,hdo,_⟩:=hd.plan_un hi hp1
 refine ⟨_,Rep.un hd hi hp1 hr',by rw [hdo];simp only [szK,D.sz];omega,by rw [hdo];simp only [szK,D.sz,ByteArray.size_empty];omega,fun ws acc=>?_⟩
 rw [hdo,iW_]
 simp only [d9_,D.lay,h8]
 rfl
theorem Doc.good_at {l:List Nd} {x:D} (hd:Doc l x) {i:Nat} (hi:i<l.length):(a6_ l i).good:=by
 obtain ⟨r,h1,_⟩:=hd.at_ hi
 intro d hdm
 have:d ∈ l.drop i:=by rw [h1];exact List.mem_append_left _ hdm
 exact hd.one d (List.mem_of_mem_drop this)
theorem rS_ {y:D}:y.good->∀ t,y.flat=some t->t.size<=20*y.sz:=by
 exact lq29
theorem abQ_ {l:List Nd} {x:D} (hd:Doc l x) {i:Nat} {K:List (D × Int)} {t s:ByteArray} {n:Int} (hr:Rep l i K) (hi:i<l.length) (hnd:l[i]=⟨8,t,n⟩) (hf:(a6_ l (i+1)).flat=some s):∃ K',pE_ l i K 0 s (b6_ l i) K':=by
 obtain ⟨K',rfl,hr'⟩:=hr.lt hi
 have h8:l[i].op=8:=by rw [hnd]
 have hp1:parts l[i].op=1:=by rw [hnd];rfl
 obtain ⟨hil,hdo,_⟩:=hd.plan_un hi hp1
 have hsz:=rS_ (hd.good_at hil) s hf
 refine ⟨K',hr',by rw [hdo];simp only [szK,D.sz];omega,by rw [hdo];simp only [szK,D.sz];omega,fun ws acc=>?_⟩
 rw [hdo]
 simp only [d9_,D.lay,h8]
 rw [if_neg (by decide)]
 simp only [if_true,hf]
def tN_ (x:D) (ws:List Int):Except Int ByteArray:=match x.lay 0 ws with
 | .error e=>.error e
 | .ok (s,[])=>.ok s
 | .ok (_,_::_)=>.error 2
def dM_ (ws:List Int):Bool:=ws.any fun c=>decide (c≠0/\c≠1)
end Go.Proofs.YtddfdmopaeghnacGreatDoor
namespace Go.Proofs.YtddfdmopaeghnacGreatDoor
def bY_:List (D × Int)->List (List Int)
 | []=>[[]]
 | (x,_)::K=>x.ways.flatMap fun u=>(bY_ K).map (u++·)
theorem t3_ (x:D) (dp:Int):bY_ [(x,dp)]=x.ways:=by
 simp only [bY_,List.map_cons,List.append_nil,List.map_nil]
 induction x.ways with
 | nil=>rfl
 | cons a r ih=>simp [ih]
theorem pT_ (f:List (List Int)):([[]]:List (List Int)).flatMap (fun u=>f.map (u++·))=f:=by simp
def pG_ (l:List Nd) (K:List (D × Int)) (i':Nat) (K':List (D × Int)):Prop:=Rep l i' K'/\szK K'<szK K/\bY_ K=bY_ K'
theorem j2_ {l:List Nd} {x:D} (hd:Doc l x) {i:Nat} {K:List (D × Int)} (hr:Rep l i K) (hi:i<l.length) (ho:parts l[i].op=0):∃ K',pG_ l K (b6_ l i) K':=by
 obtain ⟨K',rfl,hr'⟩:=hr.lt hi
 have hlf:=hd.leaf_ hi ho
 refine ⟨K',hr',by rw [hlf];simp only [szK,D.sz];omega, ?_⟩
 rw [hlf]
 simp only [bY_,D.ways]
 exact pT_ _
theorem oJ_ (a b:List (List Int)) (f:List (List Int)):(a.flatMap (fun u=>b.map (u++·))).flatMap (fun u=>f.map (u++·))=a.flatMap (fun u=>(b.flatMap (fun v=>f.map (v++·))).map (u++·)):=by
 rw [List.flatMap_assoc]
 congr 1
 funext u
 rw [List.flatMap_map,List.map_flatMap]
 congr 1
 funext v
 rw [List.map_map]
 congr 1
 funext z
 simp
theorem acQ_ {l:List Nd} {x:D} (hd:Doc l x) {i:Nat} {K:List (D × Int)} (hr:Rep l i K) (hi:i<l.length) (h6:l[i].op=6):∃ K',pG_ l K (i+1) K':=by
 obtain ⟨K',rfl,hr'⟩:=hr.lt hi
 have hp2:parts l[i].op=2:=by rw [h6];rfl
 obtain ⟨_,_,hdo,_⟩:=hd.plan_bin hi hp2
 refine ⟨_,Rep.both hd hi h6 hr',by rw [hdo];simp only [szK,D.sz];omega, ?_⟩
 rw [hdo]
 simp only [bY_,D.ways,h6,if_true]
 exact oJ_ _ _ _
theorem acR_ {l:List Nd} {x:D} (hd:Doc l x) {i:Nat} {K:List (D × Int)} (hr:Rep l i K) (hi:i<l.length) (h7:l[i].op=7):∃ K',pG_ l K (i+1) K':=by
 obtain ⟨K',rfl,hr'⟩:=hr.lt hi
 have hp1:parts l[i].op=1:=by rw [h7];rfl
 obtain ⟨_,hdo,_⟩:=hd.plan_un hi hp1
 refine ⟨_,Rep.un hd hi hp1 hr',by rw [hdo];simp only [szK,D.sz];omega, ?_⟩
 rw [hdo]
 simp only [bY_,D.ways,h7,if_true]
def pD_ (l:List Nd) (K:List (D × Int)) (ok0:Bool) (i0 i1:Nat) (K0 K1:List (D × Int)):Prop :=
 Rep l i0 K0/\Rep l i1 K1/\szK K0<szK K/\szK K1<szK K/\bY_ K=(if ok0=true then (bY_ K0).map (0::·) else [])++(bY_ K1).map (1::·)
theorem h9_ (c:Int) (a f:List (List Int)):(a.map (c::·)).flatMap (fun u=>f.map (u++·))=(a.flatMap (fun u=>f.map (u++·))).map (c::·):=by
 rw [List.flatMap_map,List.map_flatMap]
 congr 1
 funext u
 rw [List.map_map]
 rfl
theorem wT_ {l:List Nd} {x:D} (hd:Doc l x) {i:Nat} {K:List (D × Int)} (hr:Rep l i K) (hi:i<l.length) (h9:l[i].op=9):∃ K0 K1,pD_ l K true (i+1) (bJ_ l (i+1)) K0 K1:=by
 obtain ⟨K',rfl,hr'⟩:=hr.lt hi
 have hp2:parts l[i].op=2:=by rw [h9];rfl
 obtain ⟨_,_,hdo,_⟩:=hd.plan_bin hi hp2
 refine ⟨_,_,Rep.either hd hi h9 hr',Rep.bin hd hi hp2 hr',by rw [hdo];simp only [szK,D.sz];omega,by rw [hdo];simp only [szK,D.sz];omega, ?_⟩
 rw [hdo]
 have h6:¬ l[i].op=6:=by omega
 simp only [bY_,D.ways,if_neg h6,if_true]
 rw [List.flatMap_append,h9_,h9_]
theorem z5_ {l:List Nd} {x:D} (hd:Doc l x) {i:Nat} {K:List (D × Int)} (hr:Rep l i K) (hi:i<l.length) (h8:l[i].op=8):∃ K0 K1,pD_ l K (a6_ l (i+1)).flat.isSome (b6_ l i) (i+1) K0 K1:=by
 obtain ⟨K',rfl,hr'⟩:=hr.lt hi
 have hp1:parts l[i].op=1:=by rw [h8];rfl
 obtain ⟨_,hdo,_⟩:=hd.plan_un hi hp1
 refine ⟨_,_,hr',Rep.un hd hi hp1 hr',by rw [hdo];simp only [szK,D.sz];omega,by rw [hdo];simp only [szK,D.sz];omega, ?_⟩
 rw [hdo]
 have h7:¬ l[i].op=7:=by omega
 simp only [bY_,D.ways,if_neg h7]
 rw [List.flatMap_append,h9_]
 congr 1
 split
 ·simp
 ·rfl
theorem afA_ (K:List (D × Int)):bY_ K≠[]:=by
 induction K with
 | nil=>simp [bY_]
 | cons p K ih =>
  obtain ⟨x,dp⟩:=p
  simp only [bY_]
  intro h
  have:=D.ways_ne (x:=x)
  cases hx:x.ways with
  | nil=>exact this hx
  | cons u r =>
   rw [hx] at h
   simp at h
   exact ih h.1
end Go.Proofs.YtddfdmopaeghnacGreatDoor
namespace Go.Proofs.YtddfdmopaeghnacGreatDoor
def cV_ (a b:Nat × Nat):Bool:=decide (a.1<b.1∨(a.1=b.1/\a.2<b.2))
def dB_ (a b:Nat × Nat):Nat × Nat:=(a.1+b.1,a.2+b.2)
theorem rK_ {a b:Nat × Nat}:cV_ a b=true↔a.1<b.1∨(a.1=b.1/\a.2<b.2):=by simp [cV_]
theorem i9_ {a b:Nat × Nat}:cV_ a b=false↔b.1<a.1∨(b.1=a.1/\b.2<=a.2):=by
 simp only [cV_,decide_eq_false_iff_not];omega
theorem aaD_ (c a b:Nat × Nat):cV_ (dB_ c a) (dB_ c b)=cV_ a b:=by
 simp only [cV_,dB_]
 congr 1
 simp only [eq_iff_iff]
 omega
theorem rL_ (a:Nat × Nat):cV_ a a=false:=by simp [cV_]
def ovr (w:Nat):Nat->List UInt8->Nat
 | _,[]=>0
 | col,c::r=>if c=10 then ovr w 0 r else (if w<col+1 then 1 else 0)+ovr w (col+1) r
def lns:List UInt8->Nat
 | []=>0
 | c::r=>(if c=10 then 1 else 0)+lns r
def aM_:Nat->List UInt8->Nat
 | col,[]=>col
 | col,c::r=>if c=10 then aM_ 0 r else aM_ (col+1) r
def cst (w col:Nat) (s:List UInt8):Nat × Nat:=(ovr w col s,lns s)
theorem r1_ (w:Nat):∀ (a:List UInt8) (col:Nat) (b:List UInt8),ovr w col (a++b)=ovr w col a+ovr w (aM_ col a) b
 | [],col,b=>by simp [ovr,aM_]
 | c::r,col,b=>by
  simp only [List.cons_append,ovr,aM_]
  split
  ·exact r1_ w r 0 b
  ·rw [r1_ w r (col+1) b];omega
theorem qX_:∀ (a b:List UInt8),lns (a++b)=lns a+lns b
 | [],b=>by simp [lns]
 | c::r,b=>by simp only [List.cons_append,lns,qX_ r b];omega
theorem mY_:∀ (a:List UInt8) (col:Nat) (b:List UInt8),aM_ col (a++b)=aM_ (aM_ col a) b
 | [],col,b=>by simp [aM_]
 | c::r,col,b=>by
  simp only [List.cons_append,aM_]
  split
  ·exact mY_ r 0 b
  ·exact mY_ r (col+1) b
theorem o2_ (w col:Nat) (a b:List UInt8):cst w col (a++b)=dB_ (cst w col a) (cst w (aM_ col a) b):=by
 simp [cst,dB_,r1_,qX_]
def i7_ (s:List UInt8):Prop:=∀ c ∈ s,c≠10
theorem v2_ (w:Nat):∀ (s:List UInt8) (col:Nat),i7_ s->ovr w col s=(col+s.length-w)-(col-w)
 | [],col,_=>by simp [ovr]
 | c::r,col,h=>by
  have hc:c≠10:=h c (by simp)
  have ih:=v2_ w r (col+1) (fun x hx=>h x (by simp [hx]))
  simp only [ovr,if_neg hc,ih,List.length_cons]
  split <;> omega
theorem uR_:∀ (s:List UInt8),i7_ s->lns s=0
 | [],_=>rfl
 | c::r,h=>by
  have hc:c≠10:=h c (by simp)
  simp only [lns,if_neg hc,uR_ r (fun x hx=>h x (by simp [hx]))]
theorem p0_:∀ (s:List UInt8) (col:Nat),i7_ s->aM_ col s=col+s.length
 | [],col,_=>by simp [aM_]
 | c::r,col,h=>by
  have hc:c≠10:=h c (by simp)
  simp only [aM_,if_neg hc,p0_ r (col+1) (fun x hx=>h x (by simp [hx])),List.length_cons]
  omega
theorem hJ_:∀ (s:List UInt8) (col:Nat),aM_ col s<=col+s.length
 | [],col=>by simp [aM_]
 | c::r,col=>by
  simp only [aM_,List.length_cons]
  split
  ·have:=hJ_ r 0;omega
  ·have:=hJ_ r (col+1);omega
theorem iZ_ (w:Nat):∀ (s:List UInt8) (col:Nat),ovr w col s<=s.length
 | [],col=>by simp [ovr]
 | c::r,col=>by
  simp only [ovr,List.length_cons]
  split
  ·have:=iZ_ w r 0;omega
  ·have:=iZ_ w r (col+1);split <;> omega
theorem n6_:∀ (s:List UInt8),lns s<=s.length
 | []=>by simp [lns]
 | c::r=>by
  simp only [lns,List.length_cons]
  have:=n6_ r
  split <;> omega
end Go.Proofs.YtddfdmopaeghnacGreatDoor
namespace Go.Proofs.YtddfdmopaeghnacGreatDoor
def bS_ (f:List Int->Nat × Nat):List (List Int)->Option (List Int)
 | []=>none
 | u::r=>match bS_ f r with
  | none=>some u
  | some v=>if cV_ (f v) (f u)=true then some v else some u
theorem mV_ (f:List Int->Nat × Nat):∀ (a b:List (List Int)),bS_ f (a++b)=match bS_ f a,bS_ f b with
  | none,y=>y
  | x,none=>x
  | some u,some v=>if cV_ (f v) (f u)=true then some v else some u
 | [],b=>by simp [bS_]
 | u::r,b=>by
  simp only [List.cons_append,bS_,mV_ f r b]
  cases h1:bS_ f r with
  | none =>
   cases h2:bS_ f b with
   | none=>rfl
   | some v=>simp
  | some x =>
   cases h2:bS_ f b with
   | none =>
    simp only
    split <;> rfl
   | some v =>
    simp only
    by_cases p:cV_ (f v) (f x)=true
    ·simp only [if_pos p]
     by_cases q:cV_ (f x) (f u)=true
     ·simp only [if_pos q,if_pos p]
      have:cV_ (f v) (f u)=true:=by rw [rK_] at *;omega
      rw [if_pos this]
     ·simp only [if_neg q]
    ·simp only [if_neg p]
     by_cases q:cV_ (f x) (f u)=true
     ·simp only [if_pos q,if_neg p]
     ·simp only [if_neg q]
      have:¬ cV_ (f v) (f u)=true:=by
       rw [Bool.not_eq_true,i9_] at *;omega
      rw [if_neg this]
theorem mW_ (f:List Int->Nat × Nat) (g:List Int->List Int):∀ l:List (List Int),bS_ f (l.map g)=(bS_ (fun u=>f (g u)) l).map g
 | []=>rfl
 | u::r=>by
  simp only [List.map_cons,bS_,mW_ f g r]
  cases bS_ (fun u=>f (g u)) r with
  | none=>rfl
  | some v =>
   simp only [Option.map_some]
   split <;> rfl
theorem k0_ {f:List Int->Nat × Nat}:∀ {l:List (List Int)} {v:List Int},bS_ f l=some v->v ∈ l
 | [],_,h=>by simp [bS_] at h
 | u::r,v,h=>by
  simp only [bS_] at h
  split at h
  ·simp at h;simp [h]
  ·rename_i x hx
   split at h
   ·simp at h;subst h;exact List.mem_cons_of_mem _ (k0_ hx)
   ·simp at h;simp [h]
theorem pL_ {f:List Int->Nat × Nat}:∀ {l:List (List Int)},bS_ f l=none->l=[]
 | [],_=>rfl
 | u::r,h=>by
  simp only [bS_] at h
  split at h
  ·simp at h
  ·split at h <;> simp at h
theorem y7_ {f:List Int->Nat × Nat} {l:List (List Int)} (h:l≠[]):∃ v,bS_ f l=some v/\v ∈ l:=by
 cases hb:bS_ f l with
 | none=>exact absurd (pL_ hb) h
 | some v=>exact ⟨v,rfl,k0_ hb⟩
theorem iU_ {f g:List Int->Nat × Nat} (c:Nat × Nat):∀ {l:List (List Int)},(∀ u ∈ l,f u=dB_ c (g u))->bS_ f l=bS_ g l
 | [],_=>rfl
 | u::r,h=>by
  have ih:=iU_ (l:=r) c (fun v hv=>h v (by simp [hv]))
  simp only [bS_,ih]
  cases hb:bS_ g r with
  | none=>rfl
  | some v=>simp only [h u (by simp),h v (List.mem_cons_of_mem _ (k0_ hb)),aaD_]
theorem oH_ {f:List Int->Nat × Nat}:∀ {l:List (List Int)} {v:List Int},bS_ f l=some v->∀ u ∈ l,cV_ (f u) (f v)=false
 | [],_,h=>by simp [bS_] at h
 | x::r,v,h=>by
  intro u hu
  simp only [bS_] at h
  split at h
  ·rename_i hn
   simp at h;subst h
   have:=pL_ hn;subst this
   simp at hu;subst hu;exact rL_ _
  ·rename_i y hy
   have ih:=oH_ hy
   split at h
   ·rename_i hl
    simp at h;subst h
    rcases List.mem_cons.1 hu with rfl|hu
    ·rw [rK_] at hl;rw [i9_];omega
    ·exact ih u hu
   ·rename_i hl
    simp at h;subst h
    rcases List.mem_cons.1 hu with rfl|hu
    ·exact rL_ _
    ·have:=ih u hu
     rw [Bool.not_eq_true,i9_] at hl;rw [i9_] at this ⊢;omega
def c8_ (K:List (D × Int)) (u:List Int):List UInt8:=match d9_ K u .empty with
 | .ok (s,_)=>s.data.toList
 | .error _=>[]
theorem jL_ (a b:ByteArray):(a++b).data.toList=a.data.toList++b.data.toList:=by
 simp
theorem lX_:∀ (K:List (D × Int)) (ws:List Int) (acc:ByteArray),d9_ K ws acc=match d9_ K ws .empty with
  | .error e=>.error e
  | .ok (s,r)=>.ok (acc++s,r)
 | [],ws,acc=>by simp [d9_]
 | (x,dp)::K,ws,acc=>by
  simp only [d9_]
  cases x.lay dp ws with
  | error e=>rfl
  | ok p =>
   obtain ⟨s,w'⟩:=p
   simp only
   rw [lX_ K w' (acc++s),lX_ K w' (.empty++s)]
   cases d9_ K w' .empty with
   | error e=>rfl
   | ok q =>
    obtain ⟨t,r⟩:=q
    simp [ByteArray.append_assoc]
theorem uL_:∀ {K:List (D × Int)} {u:List Int},u ∈ bY_ K->∃ s,d9_ K u .empty=.ok (s,[])
 | [],u,h=>by
  simp [bY_] at h;subst h
  exact ⟨_,rfl⟩
 | (x,dp)::K,u,h=>by
  simp only [bY_,List.mem_flatMap,List.mem_map] at h
  obtain ⟨a,ha,b,hb,rfl⟩:=h
  obtain ⟨s,hs⟩:=D.lay_way (dp:=dp) ha
  obtain ⟨t,ht⟩:=uL_ hb
  have h1:=D.lay_more (v:=b) hs
  simp only [d9_,h1]
  rw [List.nil_append,lX_,ht]
  exact ⟨_,rfl⟩
theorem vU_ {K:List (D × Int)} {u:List Int} {s:ByteArray} {r:List Int} (h:d9_ K u .empty=.ok (s,r)):c8_ K u=s.data.toList:=by
 rw [c8_,h]
theorem eS_ {K K':List (D × Int)} {u u':List Int} {txt:ByteArray} (h:∀ acc,d9_ K u acc=d9_ K' u' (acc++txt)) (hu:u' ∈ bY_ K'):c8_ K u=txt.data.toList++c8_ K' u':=by
 obtain ⟨s,hs⟩:=uL_ hu
 have h1:=h .empty
 rw [lX_ K',hs] at h1
 rw [vU_ h1,vU_ hs,jL_,jL_]
 simp
def bD_ (w:Nat) (K:List (D × Int)) (col:Nat):List Int:=(bS_ (fun u=>cst w col (c8_ K u)) (bY_ K)).getD []
def b9_ (w:Nat) (K:List (D × Int)) (col:Nat):Nat × Nat:=cst w col (c8_ K (bD_ w K col))
theorem hH_ (w:Nat) (K:List (D × Int)) (col:Nat):bS_ (fun u=>cst w col (c8_ K u)) (bY_ K)=some (bD_ w K col):=by
 obtain ⟨v,hv,_⟩:=y7_ (f:=fun u=>cst w col (c8_ K u)) (afA_ K)
 rw [bD_,hv];rfl
theorem f0_ (w:Nat) (K:List (D × Int)) (col:Nat):bD_ w K col ∈ bY_ K:=k0_ (hH_ w K col)
theorem u2_ (w col:Nat):bD_ w [] col=[]/\b9_ w [] col=(0,0):=by
 have h:bD_ w [] col=[]:=by
  have:=f0_ w [] col
  simpa [bY_] using this
 refine ⟨h, ?_⟩
 rw [b9_,h]
 rfl
theorem rC_ {l:List Nd} {i i':Nat} {K K':List (D × Int)} {txt:ByteArray} (h:hX_ l i K txt i' K') (hw:bY_ K=bY_ K') (w col:Nat) :
  bD_ w K col=bD_ w K' (aM_ col txt.data.toList)/\b9_ w K col=dB_ (cst w col txt.data.toList) (b9_ w K' (aM_ col txt.data.toList)):=by
 have key:∀ u ∈ bY_ K',cst w col (c8_ K u)=dB_ (cst w col txt.data.toList) (cst w (aM_ col txt.data.toList) (c8_ K' u)):=fun u hu=>by
  rw [eS_ (h.2.2.2 u) hu,o2_]
 have h1:bD_ w K col=bD_ w K' (aM_ col txt.data.toList):=by
  have:=hH_ w K col
  rw [hw,iU_ _ key,hH_] at this
  exact (Option.some.inj this).symm
 refine ⟨h1, ?_⟩
 rw [b9_,h1,key _ (f0_ _ _ _)]
 rfl
theorem rB_ {l:List Nd} {i0 i1:Nat} {K K0 K1:List (D × Int)} {t0 t1:ByteArray} {ok0:Bool} (hp:pD_ l K ok0 i0 i1 K0 K1)
  (h0:ok0=true->∀ ws acc,d9_ K (0::ws) acc=d9_ K0 ws (acc++t0)) (h1:∀ ws acc,d9_ K (1::ws) acc=d9_ K1 ws (acc++t1)) (w col:Nat) :
  let c0:=dB_ (cst w col t0.data.toList) (b9_ w K0 (aM_ col t0.data.toList))
  let c1:=dB_ (cst w col t1.data.toList) (b9_ w K1 (aM_ col t1.data.toList))
  (ok0=true/\cV_ c1 c0=false->bD_ w K col=0::bD_ w K0 (aM_ col t0.data.toList)/\b9_ w K col=c0) /\
  (ok0=false∨cV_ c1 c0=true->bD_ w K col=1::bD_ w K1 (aM_ col t1.data.toList)/\b9_ w K col=c1):=by
 intro c0 c1
 have k1:∀ u ∈ bY_ K1,cst w col (c8_ K (1::u))=dB_ (cst w col t1.data.toList) (cst w (aM_ col t1.data.toList) (c8_ K1 u)):=fun u hu=>by
  rw [eS_ (h1 u) hu,o2_]
 have b1:bS_ (fun u=>cst w col (c8_ K u)) ((bY_ K1).map (1::·))=some (1::bD_ w K1 (aM_ col t1.data.toList)):=by
  rw [mW_,iU_ _ k1,hH_];rfl
 have e1:cst w col (c8_ K (1::bD_ w K1 (aM_ col t1.data.toList)))=c1:=k1 _ (f0_ _ _ _)
 have hb:=hH_ w K col
 rw [hp.2.2.2.2,mV_,b1] at hb
 cases ok0 with
 | false =>
  simp only [Bool.false_eq_true,if_false,bS_] at hb
  have hb':=(Option.some.inj hb).symm
  refine ⟨fun h=>(by cases h.1),fun _=>⟨hb', ?_⟩⟩
  rw [b9_,hb',e1]
 | true =>
  have k0:∀ u ∈ bY_ K0,cst w col (c8_ K (0::u))=dB_ (cst w col t0.data.toList) (cst w (aM_ col t0.data.toList) (c8_ K0 u)):=fun u hu=>by
   rw [eS_ (h0 rfl u) hu,o2_]
  have b0:bS_ (fun u=>cst w col (c8_ K u)) ((bY_ K0).map (0::·))=some (0::bD_ w K0 (aM_ col t0.data.toList)):=by
   rw [mW_,iU_ _ k0,hH_];rfl
  have e0:cst w col (c8_ K (0::bD_ w K0 (aM_ col t0.data.toList)))=c0:=k0 _ (f0_ _ _ _)
  simp only [if_true,b0,e0,e1] at hb
  refine ⟨fun h=>?_,fun h=>?_⟩
  ·rw [h.2] at hb
   simp only [Bool.false_eq_true,if_false] at hb
   have hb':=(Option.some.inj hb).symm
   exact ⟨hb',by rw [b9_,hb',e0]⟩
  ·have h':cV_ c1 c0=true:=by
    rcases h with h|h
    ·cases h
    ·exact h
   rw [h'] at hb
   simp only [if_true] at hb
   have hb':=(Option.some.inj hb).symm
   exact ⟨hb',by rw [b9_,hb',e1]⟩
end Go.Proofs.YtddfdmopaeghnacGreatDoor
namespace Go.Proofs.YtddfdmopaeghnacGreatDoor
open Go.RowKit
theorem tG_ (n:Nat):(⟨(Lib.repeatL (⟨#[32]⟩:ByteArray).data.toList n).toArray⟩:ByteArray)=bL_ n:=by
 have h:Lib.repeatL [32] n=List.replicate n (32:UInt8):=by
  induction n with
  | zero=>rfl
  | succ n ih=>simp [Lib.repeatL,List.replicate_succ] at ih ⊢;try exact ih
 show (⟨(Lib.repeatL [32] n).toArray⟩:ByteArray)=_
 rw [h];rfl
theorem lq30 {P:Prop} (h:P:=by
 obtain ⟨gn,gd,ge,gf,gi,cf,ci,hp⟩:=hp
 obtain ⟨b,off,op,t',n',rfl,hb,hnd',hts,d1,d2,d3⟩:=hl.node (Below.refl _ _) hk
 rw [hnd] at hnd'
 cases hnd'
 have h400:=hd.len
 have e0:=hp.c0
 have e1:=hp.c1
 have x1:=hp.nx k hk
 have g1:=hp.lp
 have g2:=hp.ln
 generalize b6_ l k=Nx at *
 have k6:(k:Int)<(l.length:Int):=by omega
 clear hp hl hd hnd
 go_enter Tryz.func51,Tryz.ntmps51
 go_wp2
 go_quiet (fail)
 go_wp2
 go_ret3
 exact ⟨rfl,aA_⟩):P:=h
theorem z8_ {l:List Nd} {x:D} (hd:Doc l x) {gp:Nat} {A:Option Addr} {c k:Nat} {t:ByteArray} {n:Int} (w:World) (hp:b5_ w gp A c l) (hl:Nds w w.heap.size A l) (hk:k<l.length) (hnd:l[k]=⟨1,t,n⟩) :
  Calls Tryz.prog 51 #[.pointer (some ⟨gp,0,none⟩),.int .i64 k] w (Ret w (.tuple #[.string t,.int .i64 (b6_ l k:Nat),.bool false])):=by
 exact lq30
theorem z9_ {l:List Nd} {x:D} (hd:Doc l x) {gp:Nat} {A:Option Addr} {c k:Nat} {t:ByteArray} {n:Int} (w:World) (hp:b5_ w gp A c l) (hl:Nds w w.heap.size A l) (hk:k<l.length) (hnd:l[k]=⟨5,t,n⟩) :
  Calls Tryz.prog 51 #[.pointer (some ⟨gp,0,none⟩),.int .i64 k] w (Ret w (.tuple #[.string .empty,.int .i64 (b6_ l k:Nat),.bool false])):=by
 exact lq30
theorem lq31 {P:Prop} (h:P:=by
 obtain ⟨gn,gd,ge,gf,gi,cf,ci,hp⟩:=hp
 obtain ⟨b,off,op',t',n',rfl,hb,hnd',hts,d1,d2,d3⟩:=hl.node (Below.refl _ _) hk
 rw [hnd] at hnd'
 cases hnd'
 have h400:=hd.len
 have e0:=hp.c0
 have g1:=hp.lp
 have k6:(k:Int)<(l.length:Int):=by omega
 clear hp hl hd hnd
 rcases ho with rfl|rfl
 all_goals
  go_enter Tryz.func51,Tryz.ntmps51
  go_wp2
  go_ret3
  exact ⟨rfl,aA_⟩):P:=h
theorem q9_ {l:List Nd} {x:D} (hd:Doc l x) {gp:Nat} {A:Option Addr} {c k:Nat} {op n:Int} {t:ByteArray} (w:World) (hp:b5_ w gp A c l) (hl:Nds w w.heap.size A l) (hk:k<l.length) (hnd:l[k]=⟨op,t,n⟩) (ho:op=6∨op=7) :
  Calls Tryz.prog 51 #[.pointer (some ⟨gp,0,none⟩),.int .i64 k] w (Ret w (.tuple #[.string .empty,.int .i64 ((k+1:Nat)),.bool false])):=by
 exact lq31
theorem nI_ {l:List Nd} {x:D} (hd:Doc l x) {gp:Nat} {A:Option Addr} {c k:Nat} {op n:Int} {t:ByteArray} (w:World) (hp:b5_ w gp A c l) (hl:Nds w w.heap.size A l) (hk:k<l.length) (hnd:l[k]=⟨op,t,n⟩) (ho:op=8∨op=9) :
  Calls Tryz.prog 51 #[.pointer (some ⟨gp,0,none⟩),.int .i64 k] w (Ret w (.tuple #[.string .empty,.int .i64 (k:Nat),.bool true])):=by
 exact lq31
theorem lq26 {P:Prop} (h:P:=by
 rw [← hwa]
 have hBa:Below w.heap.size w wa:=by rw [hwa];exact (Below.refl _ _).alloc (Nat.le_refl _) _
 have a1:=(hBa.cell (p:=⟨gp,1,none⟩) g1).trans e1
 have a2:=(hBa.cell (p:=⟨gp,2,none⟩) g1).trans e2
 have b1:=(hBa.cell (p:=⟨gn,k,none⟩) g2).trans x1
 have b2:=(hBa.cell (p:=⟨gd,k,none⟩) g3).trans x2
 have g1a:=Nat.lt_of_lt_of_le g1 hBa.size
 have g2a:=Nat.lt_of_lt_of_le g2 hBa.size
 have g3a:=Nat.lt_of_lt_of_le g3 hBa.size
 clear hwa e0 e1 e2 x1 x2 d1 d2 d3
 have hcat:∀ w',(Op.stringOp .add ⟨#[10]⟩ BL).run Tryz.prog w'=.ok (.string (⟨#[10]⟩++BL)) w':=fun w'=>run_string_add_sum w' ⟨#[10]⟩ BL (by show 1+BL.size<=_;omega)
 go_region_held3 (fun w'=>w'.cell? ⟨gp,1,none⟩=some (.slice (some ⟨gn,0,none⟩) l.length l.length)/\w'.cell? ⟨gp,2,none⟩=some (.slice (some ⟨gd,0,none⟩) l.length l.length)/\w'.cell? ⟨gn,k,none⟩=some (.int .i64 (Nx:Nat))/\w'.cell? ⟨gd,k,none⟩=some (.int .i64 (dn:Nat)))
  (first|exact ⟨a1,a2,b1,b2⟩|exact ⟨(hBj.cell (p:=⟨gp,1,none⟩) g1a).trans a1,(hBj.cell (p:=⟨gp,2,none⟩) g1a).trans a2,(hBj.cell (p:=⟨gn,k,none⟩) g2a).trans b1,(hBj.cell (p:=⟨gd,k,none⟩) g3a).trans b2⟩)
  (first|(go_at_call 94;refine (HR.out _).mono ?_;rintro e w3 ⟨rfl,hBj⟩))
 go_wp2
 go_ret3
 exact ⟨rfl,hBa.trans ((b7_ hBj).mono hBa.size)⟩):P:=h
theorem m9_ {l:List Nd} {x:D} (hd:Doc l x) {gp:Nat} {A:Option Addr} {c k:Nat} {op n:Int} {t:ByteArray} (w:World) (hp:b5_ w gp A c l) (hl:Nds w w.heap.size A l) (hk:k<l.length) (hnd:l[k]=⟨op,t,n⟩) (ho:op=2∨op=3∨op=4) :
  Calls Tryz.prog 51 #[.pointer (some ⟨gp,0,none⟩),.int .i64 k] w (Ret w (.tuple #[.string (⟨#[10]⟩++bL_ (bB_ l k).toNat),.int .i64 (b6_ l k:Nat),.bool false])):=by
 obtain ⟨gn,gd,ge,gf,gi,cf,ci,hp⟩:=hp
 obtain ⟨b,off,op',t',n',rfl,hb,hnd',hts,d1,d2,d3⟩:=hl.node (Below.refl _ _) hk
 rw [hnd] at hnd'
 cases hnd'
 have h400:=hd.len
 obtain ⟨hd0,hd1⟩:=hd.deep_bd k hk
 obtain ⟨dn,hdn⟩:∃ dn:Nat,bB_ l k=(dn:Int):=⟨(bB_ l k).toNat,by omega⟩
 have x2:=hp.dp k hk
 rw [hdn] at x2 hd1 ⊢
 rw [Int.toNat_natCast]
 have e0:=hp.c0
 have e1:=hp.c1
 have e2:=hp.c2
 have x1:=hp.nx k hk
 have g1:=hp.lp
 have g2:=hp.ln
 have g3:=hp.ld
 generalize b6_ l k=Nx at *
 have k6:(k:Int)<(l.length:Int):=by omega
 have hdn2:dn<=3200:=by omega
 have HR:=hd_ (fun w'=>Tryz.strings_Repeat ⟨#[32]⟩ dn w' (by omega) (by show 1*dn<=_;omega))
 rw [tG_] at HR
 clear hp hl hd hnd hdn hd0 hd1
 have hbz:(bL_ dn).size=dn:=by simp [bL_,ByteArray.size]
 have hbz2:(bL_ dn).size<=3200:=by omega
 clear hbz
 generalize bL_ dn=BL at *
 rcases ho with rfl|rfl|rfl
 ·go_enter Tryz.func51,Tryz.ntmps51
  go_wp2
  obtain ⟨wa,hwa⟩:∃ wa,wa=w.alloc (.cells #[.int .i64 2,.string t,.int .i64 n] 157):=⟨_,rfl⟩
  exact lq26
 ·go_enter Tryz.func51,Tryz.ntmps51
  go_wp2
  obtain ⟨wa,hwa⟩:∃ wa,wa=w.alloc (.cells #[.int .i64 3,.string t,.int .i64 n] 157):=⟨_,rfl⟩
  exact lq26
 ·go_enter Tryz.func51,Tryz.ntmps51
  go_wp2
  obtain ⟨wa,hwa⟩:∃ wa,wa=w.alloc (.cells #[.int .i64 4,.string t,.int .i64 n] 157):=⟨_,rfl⟩
  exact lq26
theorem mQ_ {l:List Nd} {x:D} (hd:Doc l x) {gp:Nat} {A:Option Addr} {c k:Nat} {t:ByteArray} {n:Int} (w:World) (ch:Int) (hch:ch=0∨ch=1) (hp:b5_ w gp A c l) (hl:Nds w w.heap.size A l) (hk:k<l.length) (hnd:l[k]=⟨9,t,n⟩) :
  Calls Tryz.prog 52 #[.pointer (some ⟨gp,0,none⟩),.int .i64 k,.int .i64 ch] w (Ret w (.tuple #[.string .empty,.int .i64 ((if ch=0 then k+1 else bJ_ l (k+1):Nat)),.bool true])):=by
 obtain ⟨gn,gd,ge,gf,gi,cf,ci,hp⟩:=hp
 obtain ⟨b,off,op',t',n',rfl,hb,hnd',hts,d1,d2,d3⟩:=hl.node (Below.refl _ _) hk
 rw [hnd] at hnd'
 cases hnd'
 have h400:=hd.len
 have hp2:parts l[k].op=2:=by rw [hnd];rfl
 have hkl:k+1<l.length:=by have:=hd.plan_bin hk hp2;omega
 have e0:=hp.c0
 have e3:=hp.c3
 have x3:=hp.en (k+1) hkl
 have g1:=hp.lp
 have g2:=hp.le
 generalize bJ_ l (k+1)=E at *
 have k6:(k:Int)<(l.length:Int):=by omega
 have k5:(k:Int)+1<(l.length:Int):=by omega
 clear hp hl hd hnd hp2
 rcases hch with rfl|rfl
 ·rw [if_pos rfl]
  go_enter Tryz.func52,Tryz.ntmps52
  go_wp2
  go_ret3
  exact ⟨rfl,aA_⟩
 ·rw [if_neg (by decide)]
  have k1:IntKind.i64.wrap ((k:Int)+1)=(k:Int)+1:=IntWalk.i64_in _ (by omega)
  have k2:(0:Int)<=(k:Int)+1:=by omega
  have k3:((k:Int)+1).toNat=k+1:=by omega
  go_enter Tryz.func52,Tryz.ntmps52
  go_wp2
  go_quiet (fail)
  go_wp2
  go_ret3
  exact ⟨rfl,aA_⟩
theorem wC_ {l:List Nd} {x:D} (hd:Doc l x) {gp:Nat} {A:Option Addr} {c k:Nat} {t:ByteArray} {n:Int} (w:World) (hp:b5_ w gp A c l) (hl:Nds w w.heap.size A l) (hk:k<l.length) (hnd:l[k]=⟨8,t,n⟩) :
  Calls Tryz.prog 52 #[.pointer (some ⟨gp,0,none⟩),.int .i64 k,.int .i64 0] w (Ret w (.tuple #[.string (aP_ l (k+1)).1,.int .i64 (b6_ l k:Nat),.bool (aP_ l (k+1)).2])):=by
 obtain ⟨gn,gd,ge,gf,gi,cf,ci,hp⟩:=hp
 obtain ⟨b,off,op',t',n',rfl,hb,hnd',hts,d1,d2,d3⟩:=hl.node (Below.refl _ _) hk
 rw [hnd] at hnd'
 cases hnd'
 have h400:=hd.len
 have hp2:parts l[k].op=1:=by rw [hnd];rfl
 have hkl:k+1<l.length:=(hd.plan_un hk hp2).1
 have e0:=hp.c0
 have e1:=hp.c1
 have e4:=hp.c4
 have e5:=hp.c5
 have x1:=hp.nx k hk
 have x4:=hp.fl (k+1) hkl
 have x5:=hp.ib (k+1) hkl
 have g1:=hp.lp
 have g2:=hp.ln
 have g4:=hp.lf
 have g5:=hp.li
 generalize aP_ l (k+1)=L at *
 generalize b6_ l k=Nx at *
 have k6:(k:Int)<(l.length:Int):=by omega
 have k5:(k:Int)+1<(l.length:Int):=by omega
 have k1:IntKind.i64.wrap ((k:Int)+1)=(k:Int)+1:=IntWalk.i64_in _ (by omega)
 have k2:(0:Int)<=(k:Int)+1:=by omega
 have k3:((k:Int)+1).toNat=k+1:=by omega
 clear hp hl hd hnd hp2
 go_enter Tryz.func52,Tryz.ntmps52
 go_wp2
 go_quiet (fail)
 go_wp2
 go_ret3
 exact ⟨rfl,aA_⟩
theorem u9_ {l:List Nd} {x:D} (hd:Doc l x) {gp:Nat} {A:Option Addr} {c k:Nat} {t:ByteArray} {n:Int} (w:World) (hp:b5_ w gp A c l) (hl:Nds w w.heap.size A l) (hk:k<l.length) (hnd:l[k]=⟨8,t,n⟩) :
  Calls Tryz.prog 52 #[.pointer (some ⟨gp,0,none⟩),.int .i64 k,.int .i64 1] w (Ret w (.tuple #[.string .empty,.int .i64 ((k+1:Nat)),.bool true])):=by
 obtain ⟨gn,gd,ge,gf,gi,cf,ci,hp⟩:=hp
 obtain ⟨b,off,op',t',n',rfl,hb,hnd',hts,d1,d2,d3⟩:=hl.node (Below.refl _ _) hk
 rw [hnd] at hnd'
 cases hnd'
 have h400:=hd.len
 have e0:=hp.c0
 have g1:=hp.lp
 have k6:(k:Int)<(l.length:Int):=by omega
 clear hp hl hd hnd
 go_enter Tryz.func52,Tryz.ntmps52
 go_wp2
 go_ret3
 exact ⟨rfl,aA_⟩
def xU_ (t:ByteArray):Prop:=i7_ t.data.toList∨∃ r,i7_ r/\t=⟨(10::r).toArray⟩
theorem aa7_ (n:Nat):i7_ (bL_ n).data.toList:=by
 intro c hc
 simp [bL_] at hc
 rw [hc.2];decide
theorem nK_ (n:Nat):xU_ (⟨#[10]⟩++bL_ n):=by
 refine .inr ⟨(bL_ n).data.toList,aa7_ n, ?_⟩
 apply ByteArray.ext
 apply Array.ext'
 simp
theorem jI_:xU_ .empty:=.inl (by intro c hc;simp at hc)
theorem h2_ {l:List Nd} {i i':Nat} {K K1 K2:List (D × Int)} {txt:ByteArray} (h1:hX_ l i K txt i' K1) (h2:pG_ l K i' K2):hX_ l i K txt i' K1/\bY_ K=bY_ K1:=by
 have:=h1.1.uniq h2.1
 subst this
 exact ⟨h1,h2.2.2⟩
theorem qU_ {l:List Nd} {x:D} (hd:Doc l x) {gp:Nat} {A:Option Addr} {c i:Nat} {K:List (D × Int)} (hr:Rep l i K) (hi:i<l.length) (ho:l[i].op≠8/\l[i].op≠9) :
  ∃ (txt:ByteArray) (nx:Nat) (K':List (D × Int)),hX_ l i K txt nx K'/\bY_ K=bY_ K'/\xU_ txt/\∀ w,b5_ w gp A c l->Nds w w.heap.size A l->Calls Tryz.prog 51 #[.pointer (some ⟨gp,0,none⟩),.int .i64 i] w (Ret w (.tuple #[.string txt,.int .i64 (nx:Nat),.bool false])):=by
 obtain ⟨op,t,n,hnd⟩:∃ op t n,l[i]=Nd.mk op t n:=⟨_,_,_,rfl⟩
 rcases hd.ops hi hnd with rfl|rfl|rfl|rfl|rfl|rfl|rfl|rfl|rfl
 ·obtain ⟨K',h⟩:=j2_ hd hr hi (by rw [hnd];rfl)
  obtain ⟨K1,h1⟩:=acB_ hd hr hi hnd
  obtain ⟨g1,g2⟩:=h2_ h1 h
  refine ⟨_,_,K1,g1,g2,.inl ?_,fun w hp hl=>z8_ hd w hp hl hi hnd⟩
  have:=sB_ (hd.one l[i] (List.getElem_mem hi)) (by rw [hnd])
  rw [hnd] at this
  exact this
 ·obtain ⟨K',h⟩:=j2_ hd hr hi (by rw [hnd];rfl)
  obtain ⟨K1,h1⟩:=nS_ hd hr hi hnd (.inl rfl)
  obtain ⟨g1,g2⟩:=h2_ h1 h
  exact ⟨_,_,K1,g1,g2,nK_ _,fun w hp hl=>m9_ hd w hp hl hi hnd (.inl rfl)⟩
 ·obtain ⟨K',h⟩:=j2_ hd hr hi (by rw [hnd];rfl)
  obtain ⟨K1,h1⟩:=nS_ hd hr hi hnd (.inr (.inl rfl))
  obtain ⟨g1,g2⟩:=h2_ h1 h
  exact ⟨_,_,K1,g1,g2,nK_ _,fun w hp hl=>m9_ hd w hp hl hi hnd (.inr (.inl rfl))⟩
 ·obtain ⟨K',h⟩:=j2_ hd hr hi (by rw [hnd];rfl)
  obtain ⟨K1,h1⟩:=nS_ hd hr hi hnd (.inr (.inr rfl))
  obtain ⟨g1,g2⟩:=h2_ h1 h
  exact ⟨_,_,K1,g1,g2,nK_ _,fun w hp hl=>m9_ hd w hp hl hi hnd (.inr (.inr rfl))⟩
 ·obtain ⟨K',h⟩:=j2_ hd hr hi (by rw [hnd];rfl)
  obtain ⟨K1,h1⟩:=acC_ hd hr hi hnd
  obtain ⟨g1,g2⟩:=h2_ h1 h
  exact ⟨_,_,K1,g1,g2,jI_,fun w hp hl=>z9_ hd w hp hl hi hnd⟩
 ·obtain ⟨K',h⟩:=acQ_ hd hr hi (by rw [hnd])
  obtain ⟨K1,h1⟩:=ac9_ hd hr hi hnd
  obtain ⟨g1,g2⟩:=h2_ h1 h
  exact ⟨_,_,K1,g1,g2,jI_,fun w hp hl=>q9_ hd w hp hl hi hnd (.inl rfl)⟩
 ·obtain ⟨K',h⟩:=acR_ hd hr hi (by rw [hnd])
  obtain ⟨K1,h1⟩:=acA_ hd hr hi hnd
  obtain ⟨g1,g2⟩:=h2_ h1 h
  exact ⟨_,_,K1,g1,g2,jI_,fun w hp hl=>q9_ hd w hp hl hi hnd (.inr rfl)⟩
 ·exact absurd (by rw [hnd]) ho.1
 ·exact absurd (by rw [hnd]) ho.2
def tW_ (K:List (D × Int)) (c:Int) (t:ByteArray) (K':List (D × Int)):Prop:=i7_ t.data.toList/\t.size+3300*szK K'<=3300*szK K/\∀ ws acc,d9_ K (c::ws) acc=d9_ K' ws (acc++t)
theorem kJ_ {l:List Nd} {i i':Nat} {K K1 K2:List (D × Int)} {c:Int} {t:ByteArray} (ht:i7_ t.data.toList) (h:pE_ l i K c t i' K1) (hr:Rep l i' K2):tW_ K c t K2:=by
 have:=h.1.uniq hr
 subst this
 exact ⟨ht,h.2.2⟩
theorem p6_:i7_ ByteArray.empty.data.toList:=by intro c hc;simp at hc
theorem oY_ {l:List Nd} {x:D} (hd:Doc l x) {gp:Nat} {A:Option Addr} {c i:Nat} {K:List (D × Int)} (hr:Rep l i K) (hi:i<l.length) (ho:l[i].op=8∨l[i].op=9) :
  ∃ (t0:ByteArray) (ok0:Bool) (i0 i1:Nat) (K0 K1:List (D × Int)),pD_ l K ok0 i0 i1 K0 K1/\(ok0=true->tW_ K 0 t0 K0)/\tW_ K 1 .empty K1 /\
   (∀ w,b5_ w gp A c l->Nds w w.heap.size A l->Calls Tryz.prog 51 #[.pointer (some ⟨gp,0,none⟩),.int .i64 i] w (Ret w (.tuple #[.string .empty,.int .i64 (i:Nat),.bool true]))) /\
   (∀ w,b5_ w gp A c l->Nds w w.heap.size A l->Calls Tryz.prog 52 #[.pointer (some ⟨gp,0,none⟩),.int .i64 i,.int .i64 0] w (Ret w (.tuple #[.string t0,.int .i64 (i0:Nat),.bool ok0]))) /\
   (∀ w,b5_ w gp A c l->Nds w w.heap.size A l->Calls Tryz.prog 52 #[.pointer (some ⟨gp,0,none⟩),.int .i64 i,.int .i64 1] w (Ret w (.tuple #[.string .empty,.int .i64 (i1:Nat),.bool true]))):=by
 obtain ⟨op,t,n,hnd⟩:∃ op t n,l[i]=Nd.mk op t n:=⟨_,_,_,rfl⟩
 rw [hnd] at ho
 rcases ho with h8|h9
 ·simp only at h8
  subst h8
  obtain ⟨K0,K1,h⟩:=z5_ hd hr hi (by rw [hnd])
  have he:(aP_ l (i+1)).2=(a6_ l (i+1)).flat.isSome:=by
   rw [aP_]
   cases (a6_ l (i+1)).flat <;> rfl
  obtain ⟨K3,h3⟩:=z7_ hd hr hi hnd
  refine ⟨(aP_ l (i+1)).1,(a6_ l (i+1)).flat.isSome,b6_ l i,i+1,K0,K1,h,fun hok=>?_,kJ_ p6_ h3 h.2.1,fun w hp hl=>nI_ hd w hp hl hi hnd (.inl rfl),fun w hp hl=>?_,fun w hp hl=>u9_ hd w hp hl hi hnd⟩
  ·cases hfl:(a6_ l (i+1)).flat with
   | none=>rw [hfl] at hok;cases hok
   | some s =>
    obtain ⟨K2,h2⟩:=abQ_ hd hr hi hnd hfl
    have hls:(aP_ l (i+1)).1=s:=by rw [aP_,hfl];rfl
    rw [hls]
    have hlt:i+1<l.length:=(hd.plan_un hi (by rw [hnd];rfl)).1
    exact kJ_ (D.flat_no (hd.good_at hlt) hfl) h2 h.1
  ·rw [← he]
   exact wC_ hd w hp hl hi hnd
 ·simp only at h9
  subst h9
  obtain ⟨K0,K1,h⟩:=wT_ hd hr hi (by rw [hnd])
  obtain ⟨K2,h2⟩:=oO_ hd hr hi hnd (c:=0) (.inl rfl)
  obtain ⟨K3,h3⟩:=oO_ hd hr hi hnd (c:=1) (.inr rfl)
  exact ⟨.empty,true,i+1,bJ_ l (i+1),K0,K1,h,fun _=>kJ_ p6_ h2 h.1,kJ_ p6_ h3 h.2.1,fun w hp hl=>nI_ hd w hp hl hi hnd (.inr rfl),fun w hp hl=>mQ_ hd w 0 (.inl rfl) hp hl hi hnd,fun w hp hl=>mQ_ hd w 1 (.inr rfl) hp hl hi hnd⟩
end Go.Proofs.YtddfdmopaeghnacGreatDoor
namespace Go.Proofs.YtddfdmopaeghnacGreatDoor
open Go.RowKit Go.Maps Go.ChangeMaps
section
variable {P:Program} {k:TypeId} {w w':World} {b:Nat}
def e4_ (P:Program) (k:TypeId) (f:Value->Option Value) (b:Nat) (w:World):Prop :=
 ∃ es clock,w.heap[b]?=some (.map es clock)/\(∀ e ∈ es.toList,(∃ l,keyOf P k e.key=some l)/\f e.key=some e.val)/\(∀ key v,f key=some v->∃ e ∈ es.toList,e.key=key)/\(es.toList.map (·.key)).Pairwise (·≠·)
theorem adL_ {l:List MapEntry} {j:Nat} {e:MapEntry} (h:l[j]?=some e):(l.map (·.key)).set j e.key=l.map (·.key):=by
 refine List.ext_getElem (by simp) (fun i h1 h2=>?_)
 rw [List.getElem_set]
 split
 ·rename_i hij
  subst hij
  have hj:j<l.length:=(List.getElem?_eq_some_iff.1 h).1
  rw [List.getElem?_eq_getElem hj] at h
  simp [Option.some.inj h]
 ·rfl
theorem aaX_ {l:List MapEntry} (h:(l.map (·.key)).Pairwise (·≠·)) {i j:Nat} {a b:MapEntry} (hi:l[i]?=some a) (hj:l[j]?=some b) (hk:a.key=b.key):i=j:=by
 have hil:=(List.getElem?_eq_some_iff.1 hi)
 have hjl:=(List.getElem?_eq_some_iff.1 hj)
 obtain ⟨hi1,hi2⟩:=hil
 obtain ⟨hj1,hj2⟩:=hjl
 have hpw:=List.pairwise_iff_getElem.1 h
 rcases Nat.lt_trichotomy i j with hlt|he|hlt
 ·have:=hpw i j (by simpa using hi1) (by simpa using hj1) hlt
  simp only [List.getElem_map] at this
  rw [hi2,hj2] at this
  exact absurd hk this
 ·exact he
 ·have:=hpw j i (by simpa using hj1) (by simpa using hi1) hlt
  simp only [List.getElem_map] at this
  rw [hi2,hj2] at this
  exact absurd hk.symm this
theorem e4_.made (w:World):e4_ P k (fun _=>none) w.heap.size (w.alloc (.map #[] 0)) :=
 ⟨#[],0,(MapKept.heap_alloc w _).1,by simp,by simp,by simp⟩
theorem e4_.lt {f:Value->Option Value} (h:e4_ P k f b w):b<w.heap.size:=by
 obtain ⟨es,clock,hb,_⟩:=h
 exact (Array.getElem?_eq_some_iff.1 hb).1
theorem e4_.of_block {f:Value->Option Value} (h:e4_ P k f b w) (hb:w'.heap[b]?=w.heap[b]?):e4_ P k f b w':=by
 obtain ⟨es,clock,h1,h2⟩:=h
 exact ⟨es,clock,hb.trans h1,h2⟩
theorem e4_.kept {f:Value->Option Value} {row:Option Nat} (h:e4_ P k f b w) (hg:w.grownBy w' row) (hne:some b≠row):e4_ P k f b w':=h.of_block (hg.block b h.lt hne)
theorem e4_.below {f:Value->Option Value} (h:e4_ P k f b w) (hb:Below w.heap.size w w'):e4_ P k f b w':=h.of_block (hb.block b h.lt)
theorem e4_.look {f:Value->Option Value} (h:e4_ P k f b w) (K:Keyed P k) {t e:TypeId} (ht:P.underlying t=some (.map k e)) {z:Value} (hz:(zeroValue e).run P w=.ok z w) {key:Value} {kl:Lit} (hkey:keyOf P k key=some kl) :
  (Instr.lookup t (.map (some b)) key true).run P w=.ok (.tuple #[(f key).getD z,.bool (f key).isSome]) w:=by
 obtain ⟨es,clock,hb,h1,h2,h3⟩:=h
 rcases K.find w hkey es.toList (fun e he=>(h1 e he).1) with ⟨hf,hn⟩|⟨j,e0,hf,hj,hk0⟩
 ·have hno:f key=none:=by
   cases hfk:f key with
   | none=>rfl
   | some v =>
    obtain ⟨e,he,hek⟩:=h2 key v hfk
    exact absurd hek (hn e he)
  rw [hno]
  simp [Instr.lookup,run_underlying ht,MapKept.run_getObj_map hb,K.check w _ hkey,hf,hz,Result.andThen]
 ·have hm:=List.mem_of_getElem? hj
  have hv:=(h1 e0 hm).2
  rw [hk0] at hv
  rw [hv]
  simp [Instr.lookup,run_underlying ht,MapKept.run_getObj_map hb,K.check w _ hkey,hf,Result.andThen]
open Classical in
noncomputable def hO_ (f:Value->Option Value) (key val:Value):Value->Option Value:=fun x=>if x=key then some val else f x
theorem sJ_ (f:Value->Option Value) (key val:Value):hO_ f key val key=some val:=by simp [hO_]
theorem mF_ (f:Value->Option Value) {key x:Value} (val:Value) (h:x≠key):hO_ f key val x=f x:=by simp [hO_,h]
theorem sK_ {f:Value->Option Value} {key val x v:Value} (h:hO_ f key val x=some v):(x=key/\v=val)∨f x=some v:=by
 unfold hO_ at h
 split at h
 ·rename_i hx
  exact .inl ⟨hx,(Option.some.inj h).symm⟩
 ·exact .inr h
theorem e4_.store {f:Value->Option Value} (h:e4_ P k f b w) (K:Keyed P k) {t e:TypeId} (ht:P.underlying t=some (.map k e)) {key:Value} {kl:Lit} (hkey:keyOf P k key=some kl) (val:Value) :
  ∃ o,∀ W:World,W.heap[b]?=w.heap[b]?->(Instr.mapUpdate t (.map (some b)) key val).run P W=.ok () (setBlock W b o)/\e4_ P k (hO_ f key val) b (setBlock W b o)/\W.grownBy (setBlock W b o) (some b):=by
 obtain ⟨es,clock,hb0,h1,h2,h3⟩:=h
 have grown:∀ (W:World) o,W.heap[b]?=some (.map es clock)->W.grownBy (setBlock W b o) (some b):=fun W o hb=>⟨rfl,rfl,rfl,by simp [setBlock],fun i _ hi=>heap_setBlock_other hb _ (fun e=>hi (by rw [e]))⟩
 have same:(∀ W:World,(Instr.findKey k key es.toList).run P W=.ok none W)/\(∀ e ∈ es.toList,e.key≠key)∨∃ j e,(∀ W:World,(Instr.findKey k key es.toList).run P W=.ok (some (j,e.val)) W)/\es.toList[j]?=some e/\e.key=key:=by
  rcases K.find w hkey es.toList (fun e he=>(h1 e he).1) with ⟨hf,hn⟩|⟨j,e0,hf,hj,hk0⟩
  ·refine .inl ⟨fun W=>?_,hn⟩
   rcases K.find W hkey es.toList (fun e he=>(h1 e he).1) with ⟨hf',_⟩|⟨j,e0,_,hj,hk0⟩
   ·exact hf'
   ·exact absurd hk0 (hn e0 (List.mem_of_getElem? hj))
  ·refine .inr ⟨j,e0,fun W=>?_,hj,hk0⟩
   rcases K.find W hkey es.toList (fun e he=>(h1 e he).1) with ⟨_,hn'⟩|⟨j',e0',hf',hj',hk0'⟩
   ·exact absurd hk0 (hn' e0 (List.mem_of_getElem? hj))
   ·have hjj:j=j':=aaX_ h3 hj hj' (hk0.trans hk0'.symm)
    subst hjj
    rw [hj] at hj'
    cases hj'
    exact hf'
 rcases same with ⟨hf,hn⟩|⟨j,e0,hf,hj,hk0⟩
 ·refine ⟨.map (es.push ⟨key,val,clock⟩) (clock+1),fun W hW=>?_⟩
  have hb:=hW.trans hb0
  refine ⟨?_,⟨_,_,heap_setBlock_same hb _, ?_, ?_, ?_⟩,grown W _ hb⟩
  ·have hfW:=hf W
   simp [Instr.mapUpdate,run_underlying ht,MapKept.run_getObj_map hb,K.check W false hkey,hfW,MapKept.run_setObj_map _ hb,Result.andThen,setBlock]
  ·intro e he
   simp only [Array.toList_push,List.mem_append,List.mem_singleton] at he
   rcases he with he|rfl
   ·exact ⟨(h1 e he).1,by rw [mF_ _ _ (hn e he)];exact (h1 e he).2⟩
   ·exact ⟨⟨kl,hkey⟩,sJ_ _ _ _⟩
  ·intro x v hx
   rcases sK_ hx with ⟨rfl,rfl⟩|hx
   ·exact ⟨⟨x,v,clock⟩,by simp,rfl⟩
   ·obtain ⟨e,he,hek⟩:=h2 x v hx
    exact ⟨e,by simp only [Array.toList_push,List.mem_append];exact .inl he,hek⟩
  ·rw [Array.toList_push,List.map_append,List.pairwise_append]
   refine ⟨h3,by simp,fun a ha b hb=>?_⟩
   obtain ⟨e,he,rfl⟩:=List.mem_map.1 ha
   simp at hb
   rw [hb]
   exact hn e he
 ·have hje:es[j]?=some e0:=by simpa using hj
  have hjl:j<es.size:=(Array.getElem?_eq_some_iff.1 hje).1
  have hlist:(es.modify j (fun e'=>{ e' with key:=key,val:=val })).toList=es.toList.set j { e0 with key:=key,val:=val }:=by rw [Array.toList_modify,modify_eq_set _ _ _ _ hj]
  refine ⟨.map (es.modify j (fun e'=>{ e' with key:=key,val:=val })) clock,fun W hW=>?_⟩
  have hb:=hW.trans hb0
  refine ⟨?_,⟨_,_,heap_setBlock_same hb _, ?_, ?_, ?_⟩,grown W _ hb⟩
  ·have hfW:=hf W
   simp [Instr.mapUpdate,run_underlying ht,MapKept.run_getObj_map hb,K.check W false hkey,hfW,hje,hk0,K.stays W hkey,MapKept.run_setObj_map _ hb,Result.andThen,setBlock]
  ·intro e he
   rw [hlist] at he
   obtain ⟨i,hi,hie⟩:=List.getElem_of_mem he
   rw [List.getElem_set] at hie
   split at hie
   ·subst hie
    exact ⟨⟨kl,hkey⟩,sJ_ _ _ _⟩
   ·rename_i hij
    have hi':i<es.toList.length:=by simpa using hi
    have hm:e ∈ es.toList:=hie▸List.getElem_mem hi'
    refine ⟨(h1 e hm).1, ?_⟩
    rw [mF_ _ _ (fun hek=>?_)]
    ·exact (h1 e hm).2
    ·have hj':j<es.toList.length:=by simpa using hjl
     have e0j:es.toList[j]=e0:=by rw [List.getElem?_eq_getElem hj'] at hj;exact Option.some.inj hj
     have hpw:=List.pairwise_iff_getElem.1 h3
     rcases Nat.lt_or_gt_of_ne hij with hlt|hlt
     ·have:=hpw j i (by simpa using hj') (by simpa using hi') hlt
      simp only [List.getElem_map] at this
      rw [e0j,hie,hk0,hek] at this
      exact this rfl
     ·have:=hpw i j (by simpa using hi') (by simpa using hj') hlt
      simp only [List.getElem_map] at this
      rw [e0j,hie,hk0,hek] at this
      exact this rfl
  ·intro x v hx
   rw [hlist]
   by_cases hxk:x=key
   ·subst hxk
    exact ⟨⟨x,val,e0.born⟩,List.mem_iff_getElem.2 ⟨j,by simpa using hjl,by simp⟩,rfl⟩
   ·have hx':f x=some v:=by rw [mF_ _ _ hxk] at hx;exact hx
    obtain ⟨e,he,hek⟩:=h2 x v hx'
    obtain ⟨i,hi,hie⟩:=List.getElem_of_mem he
    refine ⟨e,List.mem_iff_getElem.2 ⟨i,by simpa using hi, ?_⟩,hek⟩
    rw [List.getElem_set]
    split
    ·rename_i hij
     subst hij
     rw [List.getElem?_eq_getElem hi] at hj
     cases hj
     rw [hie] at hk0
     exact absurd (hek.symm.trans hk0) hxk
    ·exact hie
  ·rw [hlist,List.map_set,← hk0,adL_ hj]
   exact h3
end
end Go.Proofs.YtddfdmopaeghnacGreatDoor
namespace Go.Proofs.YtddfdmopaeghnacGreatDoor
open Go.RowKit Go.Maps
theorem adN_:laidOutB Tryz.prog=true:=by kernel_rfl
theorem ahL_:(181:TypeId)<Tryz.prog.types.size:=of_decide_eq_true (by kernel_rfl)
theorem aeX_:(match Tryz.prog.underlying 181 with|some (.array _ _)|some (.struct _)=>true|_=>false)=true:=by kernel_rfl
theorem oB_:Keyed Tryz.prog 181:=Keyed.of_law (deep_law_laid adN_ (m:=2) (by omega) ahL_ (by kernel_rfl) aeX_)
theorem aeY_ (w:World):(zeroValue 178).run Tryz.prog w=.ok (.agg #[.int .i64 0,.int .i64 0,.int .i64 0]) w:=by kernel_rfl
theorem ac7_:Tryz.prog.types.size=355:=by kernel_rfl
theorem x4_:Tryz.prog.keyType 181=true:=by kernel_rfl
theorem sV_:Tryz.prog.cellsOf 181=2:=by kernel_rfl
theorem aaT_ {n:Nat} (h:n<=9000000000000000000):(Lit.int .i64 (n:Int)).wf=true:=by
 exact WalkArith.wf_i64 (by omega)
def c2_ (i col:Nat):Value:=.agg #[.int .i64 (i:Nat),.int .i64 (col:Nat)]
def e1_ (c:Nat × Nat) (k:Int):Value:=.agg #[.int .i64 (c.1:Nat),.int .i64 (c.2:Nat),.int .i64 k]
theorem jY_ {i col:Nat} (hi:i<=9000000000000000000) (hc:col<=9000000000000000000):∃ kl,keyOf Tryz.prog 181 (c2_ i col)=some kl:=by
 have h1:=aaT_ hi
 have h2:=aaT_ hc
 obtain ⟨m,hm⟩:∃ m,Tryz.prog.types.size=m+1:=⟨_,ac7_⟩
 unfold keyOf c2_
 simp only [Tryz.underlying181]
 rw [if_pos (by simp [x4_,Value.formed,Tryz.underlying181];exact sV_.symm),hm]
 unfold Program.keyLits
 simp only [Tryz.underlying181,Value.cells]
 have k0:Tryz.prog.cellsOf 3=1:=by kernel_rfl
 rw [if_pos ⟨sV_.symm,by simp⟩]
 simp [k0,Program.keyLits,Tryz.underlying3,h1,h2]
theorem ac8_ {i col i' col':Nat} (h:c2_ i col=c2_ i' col'):i=i'/\col=col':=by
 simp [c2_] at h
 omega
def bR_ (l:List Nd) (i:Nat) (u:List Int):Int:=if h:i<l.length then (if l[i].op=8∨l[i].op=9 then u.headD 0 else 0) else 0
def dL_ (l:List Nd) (W:Nat) (f:Value->Option Value):Prop :=
 ∀ key v,f key=some v->∃ (i col:Nat) (K:List (D × Int)),key=c2_ i col/\Rep l i K/\v=e1_ (b9_ W K col) (bR_ l i (bD_ W K col))
theorem dL_.none (l:List Nd) (W:Nat):dL_ l W (fun _=>Option.none):=fun _ _ h=>by cases h
theorem dL_.put {l:List Nd} {W:Nat} {f:Value->Option Value} (h:dL_ l W f) {i col:Nat} {K:List (D × Int)} (hr:Rep l i K):dL_ l W (hO_ f (c2_ i col) (e1_ (b9_ W K col) (bR_ l i (bD_ W K col)))):=by
 intro key v hk
 rcases sK_ hk with ⟨rfl,rfl⟩|hk
 ·exact ⟨i,col,K,rfl,hr,rfl⟩
 ·exact h key v hk
theorem dL_.at_ {l:List Nd} {W:Nat} {f:Value->Option Value} (h:dL_ l W f) {i col:Nat} {K:List (D × Int)} (hr:Rep l i K) {v:Value} (hv:f (c2_ i col)=some v):v=e1_ (b9_ W K col) (bR_ l i (bD_ W K col)):=by
 obtain ⟨i',col',K',hk,hr',hv'⟩:=h _ _ hv
 obtain ⟨rfl,rfl⟩:=ac8_ hk
 have:=hr.uniq hr'
 subst this
 exact hv'
structure CS (w0:World) (gs gp bm W:Nat) (l:List Nd) (w:World):Prop where
 blk:w.heap[gs]?=some (.cells #[.pointer (some ⟨gp,0,none⟩),.int .i64 (W:Nat),.map (some bm)] 176 (0,0))
 map:∃ f,e4_ Tryz.prog 181 f bm w/\dL_ l W f
 lowS:w0.heap.size<=gs
 lowM:w0.heap.size<=bm
 bel:Below w0.heap.size w0 w
theorem gG_ {w w':World} (h:Below w.heap.size w w') (b:Nat):w.grownBy w' (some b):=⟨h.os,h.tape,h.output,h.size,fun i hi _=>h.block i hi⟩
theorem lP_ {a w:World} {b:Nat} (h:a.grownBy w (some b)) (o:Obj):a.grownBy (w.alloc o) (some b):=a1_ h ((Below.refl _ _).alloc (Nat.le_refl _) _)
theorem lQ_ {a w:World} {b:Nat} (h:a.grownBy w (some b)) (n:Nat):a.grownBy (w.drewN n) (some b):=a1_ h (below_drewN (Below.refl _ _) n)
theorem iE_ {a w:World} {b:Nat} (h:a.grownBy w (some b)):a.grownBy w.drew (some b):=a1_ h ((Below.refl _ _).drew)
theorem dC_ {a w w':World} {b:Nat} (h:a.grownBy w (some b)) (hb:Below w.heap.size w w'):a.grownBy w' (some b):=a1_ h hb
theorem n2_ {a w:World} {b:Nat} (h:a.grownBy w (some b)) {p:Addr} (hp:a.heap.size<=p.block) (v:Value):a.grownBy (w.setCell p v) (some b) :=
 ⟨h.os,h.tape,h.output,by simpa [World.setCell] using h.size,fun i hi hne=>by
  rw [← h.block i hi hne]
  have:i≠p.block:=by omega
  simp [World.setCell,Array.getElem?_modify]
  intro e;exact absurd e.symm this⟩
theorem aa8_ {a w:World} {b g:Nat} {o:Obj} (hg:a.heap[g]?=some o) (h:a.grownBy w (some b)) (hne:g≠b):w.heap[g]?=some o :=
 (h.block g (a3_ hg) (by simpa using hne)).trans hg
theorem a2_ {w:World} {g j:Nat} {cs:Array Value} {T:TypeId} {fr:Nat × Nat} (h:w.heap[g]?=some (.cells cs T fr)):w.cell? ⟨g,j,none⟩=cs[j]?:=cell_of_row w g j cs T fr h
theorem b3_ {w:World} {g j:Nat} {cs:Array Value} {T:TypeId} (h:w.heap[g]?=some (.cells cs T (0,0))):w.frozen? ⟨g,j,none⟩=false:=by simp [World.frozen?,h]
variable {w0 w w':World} {gs gp bm W:Nat} {l:List Nd}
theorem CS.past (h:CS w0 gs gp bm W l w) (hb:Below w.heap.size w w'):CS w0 gs gp bm W l w':=by
 obtain ⟨f,h1,h2⟩:=h.map
 exact ⟨a5_ h.blk hb,⟨f,h1.below hb,h2⟩,h.lowS,h.lowM,h.bel.trans (hb.mono h.bel.size)⟩
theorem CS.ms (h:CS w0 gs gp bm W l w):gs≠bm:=by
 obtain ⟨f,⟨es,clock,hb,_⟩,_⟩:=h.map
 rintro rfl
 rw [h.blk] at hb
 cases hb
theorem CS.mlt (h:CS w0 gs gp bm W l w):bm<w.heap.size:=by
 obtain ⟨f,h1,_⟩:=h.map
 exact h1.lt
theorem CS.set (h:CS w0 gs gp bm W l w) {p:Addr} (h1:p.block≠gs) (h2:p.block≠bm) (h3:w0.heap.size<=p.block) (v:Value):CS w0 gs gp bm W l (w.setCell p v):=by
 obtain ⟨f,g1,g2⟩:=h.map
 refine ⟨gD_ h.blk p v (Ne.symm h1),⟨f,g1.of_block ?_,g2⟩,h.lowS,h.lowM,h.bel.setCell h3 _⟩
 simp [World.setCell,Array.getElem?_modify]
 intro e;exact absurd e h2
theorem CS.new (w:World) (gp W:Nat) (l:List Nd):CS w (w.heap.size+1) gp w.heap.size W l ((w.alloc (.map #[] 0)).alloc (.cells #[.pointer (some ⟨gp,0,none⟩),.int .i64 (W:Nat),.map (some w.heap.size)] 176)):=by
 refine ⟨aN_ (by simp),⟨_,(e4_.made w).below ((Below.refl _ _).alloc (Nat.le_refl _) _),dL_.none l W⟩,by omega,Nat.le_refl _,((Below.refl _ _).alloc (Nat.le_refl _) _).alloc (by simp) _⟩
def eU_ (w0:World) (gs gp bm W:Nat) (l:List Nd) (v:Value) (w:World) (e:Ending) (w':World):Prop:=e=.returned v/\CS w0 gs gp bm W l w'/\w.grownBy w' (some bm)
def hR_ (w0:World) (gs gp bm W:Nat) (l:List Nd) (z:Nat):Prop :=
 ∀ (K:List (D × Int)),szK K<=z->∀ (i col:Nat) (w:World),Rep l i K->CS w0 gs gp bm W l w->col+3300*szK K<=2000000 ->
  Calls Tryz.prog 97 #[.pointer (some ⟨gs,0,none⟩),c2_ i col] w (eU_ w0 gs gp bm W l (e1_ (b9_ W K col) (bR_ l i (bD_ W K col))) w)
end Go.Proofs.YtddfdmopaeghnacGreatDoor
namespace Go.Proofs.YtddfdmopaeghnacGreatDoor
open Go.RowKit
theorem ai1_ {t:ByteArray} (h:i7_ t.data.toList) (w:World):Calls Tryz.prog 185 #[.string t,.string ⟨#[10]⟩] w fun e w'=>e=.returned (.tuple #[.string t,.bool false])/\w=w':=by
 refine (Tryz.strings_CutPrefix t ⟨#[10]⟩ w).mono fun e w' ⟨he,hw⟩=>⟨?_,hw.symm⟩
 have hp:Lib.hasPrefix t.data.toList [10]=false:=by
  cases hl:t.data.toList with
  | nil=>rfl
  | cons c r =>
   have hc:c≠10:=h c (by simp [hl])
   simp [Lib.hasPrefix,List.isPrefixOf]
   exact fun e=>hc e.symm
 rw [he]
 have e1:(⟨#[10]⟩:ByteArray).data.toList=[10]:=rfl
 rw [e1,Lib.trimPrefix,hp]
 simp
theorem ag2_ {r:List UInt8} (w:World):Calls Tryz.prog 185 #[.string ⟨(10::r).toArray⟩,.string ⟨#[10]⟩] w fun e w'=>e=.returned (.tuple #[.string ⟨r.toArray⟩,.bool true])/\w=w':=by
 refine (Tryz.strings_CutPrefix ⟨(10::r).toArray⟩ ⟨#[10]⟩ w).mono fun e w' ⟨he,hw⟩=>⟨?_,hw.symm⟩
 have hp:Lib.hasPrefix (10::r) [10]=true:=by simp [Lib.hasPrefix,List.isPrefixOf]
 rw [he]
 have e1:(⟨#[10]⟩:ByteArray).data.toList=[10]:=rfl
 have e2:(⟨(10::r).toArray⟩:ByteArray).data.toList=10::r:=by simp
 rw [e1,e2,Lib.trimPrefix,hp]
 simp
theorem p8_ (a b:Nat × Nat) (h1:a.1+b.1<=9000000) (h2:a.2+b.2<=9000000) (w:World) :
  Calls Tryz.prog 153 #[.agg #[.int .i64 (a.1:Nat),.int .i64 (a.2:Nat)],.agg #[.int .i64 (b.1:Nat),.int .i64 (b.2:Nat)]] w (Ret w (.agg #[.int .i64 ((dB_ a b).1:Nat),.int .i64 ((dB_ a b).2:Nat)])):=by
 obtain ⟨a1,a2⟩:=a
 obtain ⟨b1,b2⟩:=b
 simp only [dB_] at *
 go_enter Tryz.func153,Tryz.ntmps153
 go_wp2
 simp [bodyPost,results,Tryz.results153,go_sem]
 exact ⟨rfl,aA_⟩
theorem t2_ (a b:Nat × Nat) {r:Bool} (h:cV_ a b=r) (w:World) :
  Calls Tryz.prog 154 #[.agg #[.int .i64 (a.1:Nat),.int .i64 (a.2:Nat)],.agg #[.int .i64 (b.1:Nat),.int .i64 (b.2:Nat)]] w (Ret w (.bool r)):=by
 obtain ⟨a1,a2⟩:=a
 obtain ⟨b1,b2⟩:=b
 simp only [cV_] at h ⊢
 subst h
 have he:((a1:Int)==(b1:Int))=decide (a1=b1):=by rw [Bool.eq_iff_iff];simp;omega
 by_cases h1:a1<b1
 ·have k1:decide (a1<b1)=true:=decide_eq_true h1
  have k2:decide (a1<b1∨a1=b1/\a2<b2)=true:=decide_eq_true (.inl h1)
  rw [k2]
  clear k2 he
  go_enter Tryz.func154,Tryz.ntmps154
  go_wp2
  go_ret
  exact ⟨rfl,aA_⟩
 ·have k1:decide (a1<b1)=false:=decide_eq_false h1
  by_cases h2:a1=b1
  ·subst h2
   have k3:decide (a1<a1∨a1=a1/\a2<b2)=decide (a2<b2):=by congr 1;simp
   rw [k3]
   clear k3 he h1
   by_cases h3:a2<b2
   ·have k4:decide (a2<b2)=true:=decide_eq_true h3
    rw [k4]
    go_enter Tryz.func154,Tryz.ntmps154
    go_wp2
    go_ret
    exact ⟨rfl,aA_⟩
   ·have k4:decide (a2<b2)=false:=decide_eq_false h3
    rw [k4]
    go_enter Tryz.func154,Tryz.ntmps154
    go_wp2
    go_ret
    exact ⟨rfl,aA_⟩
  ·have k2:((a1:Int)==(b1:Int))=false:=by rw [he];exact decide_eq_false h2
   have k3:decide (a1<b1∨a1=b1/\a2<b2)=false:=decide_eq_false (by omega)
   rw [k3]
   clear k3 he
   go_enter Tryz.func154,Tryz.ntmps154
   go_wp2
   go_ret
   exact ⟨rfl,aA_⟩
theorem ak9_ {gs gp bm W col:Nat} {t:ByteArray} (ht:i7_ t.data.toList) (hc:col<=9000000) (hz:t.size<=9000000) (hW:W<=100) (w:World)
  (hb:w.heap[gs]?=some (.cells #[.pointer (some ⟨gp,0,none⟩),.int .i64 (W:Nat),.map (some bm)] 176 (0,0))) :
  Calls Tryz.prog 152 #[.pointer (some ⟨gs,0,none⟩),.string t,.int .i64 (col:Nat)] w (Ret w (.tuple #[.agg #[.int .i64 ((cst W col t.data.toList).1:Nat),.int .i64 ((cst W col t.data.toList).2:Nat)],.int .i64 (aM_ col t.data.toList:Nat)])):=by
 have hov:(ovr W col t.data.toList:Int)=max 0 ((col:Int)+t.size-W)-max 0 ((col:Int)-W):=by
  rw [v2_ W _ col ht]
  have:t.data.toList.length=t.size:=by simp
  rw [this]
  omega
 have hcl:(aM_ col t.data.toList:Int)=col+t.size:=by
  rw [p0_ _ _ ht];simp
 have hln:=uR_ _ ht
 have c1:=a2_ (j:=1) hb
 simp at c1
 have hlt:=a3_ hb
 have HT:=hd_ ht;have HOV:=hd_ hov;have HCL:=hd_ hcl;have HLN:=hd_ hln
 clear ht hov hcl hln hb
 go_enter Tryz.func152,Tryz.ntmps152
 go_wp2_with (go_at_call 185;refine (ai1_ HT.out _).mono ?_;rintro e w1 ⟨rfl,rfl⟩)
 have c2:∀ o1 o2,((w.alloc o1).alloc o2).cell? ⟨gs,1,none⟩=some (.int .i64 (W:Nat)):=fun o1 o2 =>
  ((((Below.refl _ _).alloc (Nat.le_refl _) _).alloc (by simp) _:Below w.heap.size w _).cell (p:=⟨gs,1,none⟩) hlt).trans c1
 have k1:IntKind.i64.wrap ((col:Int)+t.size-W)=(col:Int)+t.size-W:=IntWalk.i64_in _ (by omega)
 have k2:IntKind.i64.wrap ((col:Int)-W)=(col:Int)-W:=IntWalk.i64_in _ (by omega)
 have k3:IntKind.i64.wrap (max 0 ((col:Int)+t.size-W)-max 0 ((col:Int)-W))=(ovr W col t.data.toList:Nat):=by rw [← HOV.out];exact IntWalk.i64_in _ (by have:=iZ_ W t.data.toList col;simp at this;omega)
 go_region_held3 (fun w'=>w'.cell? ⟨gs,1,none⟩=some (.int .i64 (W:Nat))) (exact c2 _ _) (fail)
 clear k1 k2 k3
 all_goals
  go_wp2
  simp [bodyPost,results,Tryz.results152,go_sem]
  refine ⟨?_,aA_⟩
  rw [HCL.out,cst,HLN.out]
  first|rfl|(rw [HOV.out];rfl)
theorem ak8_ {gs gp bm W col:Nat} {r:List UInt8} (ht:i7_ r) (hz:r.length<=9000000) (hW:W<=100) (w:World)
  (hb:w.heap[gs]?=some (.cells #[.pointer (some ⟨gp,0,none⟩),.int .i64 (W:Nat),.map (some bm)] 176 (0,0))) :
  Calls Tryz.prog 152 #[.pointer (some ⟨gs,0,none⟩),.string ⟨(10::r).toArray⟩,.int .i64 (col:Nat)] w (Ret w (.tuple #[.agg #[.int .i64 ((cst W col (10::r)).1:Nat),.int .i64 ((cst W col (10::r)).2:Nat)],.int .i64 (aM_ col (10::r):Nat)])):=by
 obtain ⟨t,htr⟩:∃ t:ByteArray,t=⟨r.toArray⟩:=⟨_,rfl⟩
 have hts:t.size=r.length:=by rw [htr];simp [ByteArray.size]
 have hcs:cst W col (10::r)=(ovr W 0 r,1):=by simp [cst,ovr,lns,uR_ _ ht]
 have hcl:aM_ col (10::r)=t.size:=by rw [aM_,if_pos rfl,p0_ _ _ ht,hts];omega
 have hov:(ovr W 0 r:Int)=max 0 ((t.size:Int)-W)-max 0 ((0:Int)-W):=by
  rw [v2_ W _ 0 ht,hts]
  omega
 have hol:=iZ_ W r 0
 rw [hcs,hcl]
 have c1:=a2_ (j:=1) hb
 simp at c1
 have hlt:=a3_ hb
 rw [← hts] at hz hol
 have CUT:=hd_ (fun w=>ag2_ (r:=r) w)
 rw [← htr] at CUT
 have HOV:=hd_ hov
 clear ht hov hcl hcs hb hts htr
 generalize ovr W 0 r=OV at *
 go_enter Tryz.func152,Tryz.ntmps152
 go_wp2_with (go_at_call 185;refine (CUT.out _).mono ?_;rintro e w1 ⟨rfl,rfl⟩)
 have c2:∀ o1 o2,((w.alloc o1).alloc o2).cell? ⟨gs,1,none⟩=some (.int .i64 (W:Nat)):=fun o1 o2 =>
  ((((Below.refl _ _).alloc (Nat.le_refl _) _).alloc (by simp) _:Below w.heap.size w _).cell (p:=⟨gs,1,none⟩) hlt).trans c1
 have k1:IntKind.i64.wrap ((t.size:Int)-W)=(t.size:Int)-W:=IntWalk.i64_in _ (by omega)
 have k2:IntKind.i64.wrap ((0:Int)-W)=(0:Int)-W:=IntWalk.i64_in _ (by omega)
 have k3:IntKind.i64.wrap (max 0 ((t.size:Int)-W)-max 0 ((0:Int)-W))=(OV:Nat):=by rw [← HOV.out];exact IntWalk.i64_in _ (by omega)
 go_region_held3 (fun w'=>w'.cell? ⟨gs,1,none⟩=some (.int .i64 (W:Nat))) (exact c2 _ _) (fail)
 clear k1 k2 k3
 all_goals
  go_wp2
  simp [bodyPost,results,Tryz.results152,go_sem]
  refine ⟨?_,aA_⟩
  first|rfl|(rw [HOV.out];simp)
theorem l8_ {gs gp bm W col:Nat} {t:ByteArray} (ht:xU_ t) (hc:col<=9000000) (hz:t.size<=9000000) (hW:W<=100) (w:World)
  (hb:w.heap[gs]?=some (.cells #[.pointer (some ⟨gp,0,none⟩),.int .i64 (W:Nat),.map (some bm)] 176 (0,0))) :
  Calls Tryz.prog 152 #[.pointer (some ⟨gs,0,none⟩),.string t,.int .i64 (col:Nat)] w (Ret w (.tuple #[.agg #[.int .i64 ((cst W col t.data.toList).1:Nat),.int .i64 ((cst W col t.data.toList).2:Nat)],.int .i64 (aM_ col t.data.toList:Nat)])):=by
 rcases ht with h|⟨r,h,rfl⟩
 ·exact ak9_ h hc hz hW w hb
 ·have e:(⟨(10::r).toArray⟩:ByteArray).data.toList=10::r:=by simp
  rw [e]
  have hsz1:(⟨(10::r).toArray⟩:ByteArray).size=r.length+1:=by simp [ByteArray.size]
  exact ak8_ h (by omega) hW w hb
end Go.Proofs.YtddfdmopaeghnacGreatDoor
namespace Go.Proofs.YtddfdmopaeghnacGreatDoor
open Go.RowKit Go.Maps Go.ChangeMaps
theorem oX_ (W:Nat) (K:List (D × Int)) (col:Nat) (h:∀ u ∈ bY_ K,(c8_ K u).length<=3300*szK K):(b9_ W K col).1<=3300*szK K/\(b9_ W K col).2<=3300*szK K:=by
 have h1:=h _ (f0_ W K col)
 exact ⟨Nat.le_trans (iZ_ _ _ _) h1,Nat.le_trans (n6_ _) h1⟩
theorem Doc.text_le {l:List Nd} {x:D} (hd:Doc l x):∀ (z:Nat) (i:Nat) (K:List (D × Int)),szK K<=z->Rep l i K->∀ u ∈ bY_ K,(c8_ K u).length<=3300*szK K:=by
 intro z
 induction z with
 | zero =>
  intro i K hz hr u hu
  by_cases hi:i<l.length
  ·have:=ahO_ hr hi;omega
  ·obtain ⟨rfl,_⟩:=hr.ge (by omega)
   simp [bY_] at hu
   subst hu
   simp [c8_,d9_]
 | succ z ih =>
  intro i K hz hr u hu
  by_cases hi:i<l.length
  ·by_cases ho:l[i].op=8∨l[i].op=9
   ·obtain ⟨t0,ok0,i0,i1,K0,K1,hp,h0,h1,_⟩:=oY_ (gp:=0) (A:=none) (c:=0) hd hr hi ho
    rw [hp.2.2.2.2,List.mem_append] at hu
    rcases hu with hu|hu
    ·cases ok0 with
     | false=>simp at hu
     | true =>
      simp only [if_true,List.mem_map] at hu
      obtain ⟨v,hv,rfl⟩:=hu
      obtain ⟨_,g2,g3⟩:=h0 rfl
      rw [eS_ (g3 v) hv,List.length_append]
      have:=ih i0 K0 (by have:=hp.2.2.1;omega) hp.1 v hv
      have e:t0.data.toList.length=t0.size:=by simp
      omega
    ·simp only [List.mem_map] at hu
     obtain ⟨v,hv,rfl⟩:=hu
     obtain ⟨_,g2,g3⟩:=h1
     rw [eS_ (g3 v) hv,List.length_append]
     have:=ih i1 K1 (by have:=hp.2.2.2.1;omega) hp.2.1 v hv
     simp only [ByteArray.size_empty] at g2
     have e:ByteArray.empty.data.toList.length=0:=by simp
     omega
   ·obtain ⟨txt,nx,K',hs,hw,_,_⟩:=qU_ (gp:=0) (A:=none) (c:=0) hd hr hi ⟨fun h=>ho (.inl h),fun h=>ho (.inr h)⟩
    rw [hw] at hu
    rw [eS_ (hs.2.2.2 u) hu,List.length_append]
    have:=ih nx K' (by have:=hs.2.1;omega) hs.1 u hu
    have e:txt.data.toList.length=txt.size:=by simp
    have:=hs.2.2.1
    omega
  ·obtain ⟨rfl,_⟩:=hr.ge (by omega)
   simp [bY_] at hu
   subst hu
   simp [c8_,d9_]
theorem Rep.le {l:List Nd} {i:Nat} {K:List (D × Int)} (h:Rep l i K):i<=l.length:=by
 rcases Nat.lt_or_ge i l.length with h1|h1
 ·omega
 ·exact Nat.le_of_eq (h.ge h1).2
def fI_ (gs gp bm:Nat) (A:Option Addr) (c n bx i col:Nat) (f:Value->Option Value) (W':World):Prop :=
 W'.cell? ⟨gs,0,none⟩=some (.pointer (some ⟨gp,0,none⟩))/\W'.cell? ⟨gs,2,none⟩=some (.map (some bm))/\W'.cell? ⟨gp,0,none⟩=some (.slice A n c)/\W'.cell? ⟨bx,0,none⟩=some (.int .i64 (i:Nat))/\W'.cell? ⟨bx,1,none⟩=some (.int .i64 (col:Nat)) /\
  (Instr.lookup 174 (.map (some bm)) (.agg #[.int .i64 (i:Nat),.int .i64 (col:Nat)]) true).run Tryz.prog W'=.ok (.tuple #[(f (c2_ i col)).getD (.agg #[.int .i64 0,.int .i64 0,.int .i64 0]),.bool (f (c2_ i col)).isSome]) W'
theorem fI_.past {gs gp bm c n bx i col:Nat} {A:Option Addr} {f:Value->Option Value} {w w':World} (h0:w.cell? ⟨gs,0,none⟩=some (.pointer (some ⟨gp,0,none⟩))) (h2:w.cell? ⟨gs,2,none⟩=some (.map (some bm))) (hp:w.cell? ⟨gp,0,none⟩=some (.slice A n c))
  (hx:w.heap[bx]?=some (.cells #[.int .i64 (i:Nat),.int .i64 (col:Nat)] 181 (0,0))) (hm:e4_ Tryz.prog 181 f bm w) (hs:gs<w.heap.size) (hg:gp<w.heap.size) {kl:Lit} (hk:keyOf Tryz.prog 181 (c2_ i col)=some kl) (hb:Below w.heap.size w w'):fI_ gs gp bm A c n bx i col f w':=by
 have hx':=a5_ hx hb
 exact ⟨(hb.cell (p:=⟨gs,0,none⟩) hs).trans h0,(hb.cell (p:=⟨gs,2,none⟩) hs).trans h2,(hb.cell (p:=⟨gp,0,none⟩) hg).trans hp,a2_ hx',a2_ hx',(hm.below hb).look oB_ Tryz.underlying174 (aeY_ _) hk⟩
theorem uT_ {P:Prop} (h:P:=by
 refine fI_.past (((hb1 _ _).cell (p:=⟨gs,0,none⟩) hsl).trans y0) (((hb1 _ _).cell (p:=⟨gs,2,none⟩) hsl).trans y2) (((hb1 _ _).cell (p:=⟨gp,0,none⟩) hgp).trans z0) ?_ (hmf.below (hb1 _ _)) (by simp;omega) (by simp;omega) hkl hW'
 exact (Below.heap_alloc _ _ _ (by simp)).trans (aN_ rfl)):P:=h
theorem wA_ {l:List Nd} {x:D} (hd:Doc l x) {gp:Nat} {A:Option Addr} {c:Nat} (w0:World) (hpl:b5_ w0 gp A c l) {gs bm W:Nat} {i col:Nat} {w:World} (hcs:CS w0 gs gp bm W l w) (hcol:col<=2000000)
  {f:Value->Option Value} (hmf:e4_ Tryz.prog 181 f bm w) {a b:Nat} {ch:Int} (hv:f (c2_ i col)=some (.agg #[.int .i64 (a:Nat),.int .i64 (b:Nat),.int .i64 ch])) (hlt:i<l.length) :
  Calls Tryz.prog 97 #[.pointer (some ⟨gs,0,none⟩),c2_ i col] w (Ret w (.agg #[.int .i64 (a:Nat),.int .i64 (b:Nat),.int .i64 ch])):=by
 have h400:=hd.len
 obtain ⟨kl,hkl⟩:=jY_ (i:=i) (col:=col) (by omega) (by omega)
 have hml:=hcs.mlt
 have hsl:=a3_ hcs.blk
 have y0:=a2_ (j:=0) hcs.blk
 have y2:=a2_ (j:=2) hcs.blk
 simp at y0 y2
 obtain ⟨gn,gd,ge,gf',gi,cf,ci,hpa⟩:=hpl.past hcs.bel
 have z0:=hpa.c0
 have hgp:=hpa.lp
 have hne:((i:Int)==(l.length:Int))=false:=by rw [beq_eq_false_iff_ne];omega
 have hb1:∀ o1 o2,Below w.heap.size w ((w.alloc o1).alloc o2):=fun o1 o2=>((Below.refl _ _).alloc (Nat.le_refl _) _).alloc (by simp) _
 have HW:∀ (o2:Obj) W',Below (((w.alloc (.cells #[.int .i64 (i:Nat),.int .i64 (col:Nat)] 181)).alloc o2).heap.size) ((w.alloc (.cells #[.int .i64 (i:Nat),.int .i64 (col:Nat)] 181)).alloc o2) W'->fI_ gs gp bm A c l.length w.heap.size i col f W':=fun o2 W' hW'=>by
  exact uT_
 unfold fI_ at HW
 simp only [hv,Option.getD_some,Option.isSome_some] at HW
 unfold c2_
 have HWW:=hd_ HW
 clear HW hpa hkl hcs hmf hv hpl hd y0 y2 z0
 go_enter Tryz.func97,Tryz.ntmps97
 go_wp2
 obtain ⟨q0,q2,z0,x0,x1,hl⟩:=HWW.out (.cells #[.int .i64 0,.int .i64 0,.int .i64 0] 178) _ (Below.refl _ _)
 clear hl
 go_quiet (fail)
 go_wp2
 have hlk:∀ n:Nat,(Instr.lookup 174 (.map (some bm)) (.agg #[.int .i64 (i:Nat),.int .i64 (col:Nat)]) true).run Tryz.prog (((w.alloc (.cells #[.int .i64 (i:Nat),.int .i64 (col:Nat)] 181)).alloc (.cells #[.int .i64 0,.int .i64 0,.int .i64 0] 178)).drewN n)=.ok (.tuple #[.agg #[.int .i64 (a:Nat),.int .i64 (b:Nat),.int .i64 ch],.bool true]) (((w.alloc (.cells #[.int .i64 (i:Nat),.int .i64 (col:Nat)] 181)).alloc (.cells #[.int .i64 0,.int .i64 0,.int .i64 0] 178)).drewN n) :=
  fun n=>(HWW.out _ _ (below_drewN (Below.refl _ _) n)).2.2.2.2.2
 have hlk2:∀ n:Nat,(Instr.lookup 174 (.map (some bm)) (.agg #[.int .i64 (i:Nat),.int .i64 (col:Nat)]) true).run Tryz.prog ((((w.alloc (.cells #[.int .i64 (i:Nat),.int .i64 (col:Nat)] 181)).alloc (.cells #[.int .i64 0,.int .i64 0,.int .i64 0] 178)).drewN n).alloc (.cells #[.int .i64 0,.int .i64 0,.int .i64 0] 178))=.ok (.tuple #[.agg #[.int .i64 (a:Nat),.int .i64 (b:Nat),.int .i64 ch],.bool true]) ((((w.alloc (.cells #[.int .i64 (i:Nat),.int .i64 (col:Nat)] 181)).alloc (.cells #[.int .i64 0,.int .i64 0,.int .i64 0] 178)).drewN n).alloc (.cells #[.int .i64 0,.int .i64 0,.int .i64 0] 178)) :=
  fun n=>(HWW.out (.cells #[.int .i64 0,.int .i64 0,.int .i64 0] 178) ((((w.alloc (.cells #[.int .i64 (i:Nat),.int .i64 (col:Nat)] 181)).alloc (.cells #[.int .i64 0,.int .i64 0,.int .i64 0] 178)).drewN n).alloc (.cells #[.int .i64 0,.int .i64 0,.int .i64 0] 178)) aA_).2.2.2.2.2
 go_region_held3 (fun w'=>w'.cell? ⟨gs,2,none⟩=some (.map (some bm))/\w'.cell? ⟨w.heap.size,0,none⟩=some (.int .i64 (i:Nat))/\w'.cell? ⟨w.heap.size,1,none⟩=some (.int .i64 (col:Nat)))
  (exact ⟨(HWW.out (.cells #[.int .i64 0,.int .i64 0,.int .i64 0] 178) _ aA_).2.1,(HWW.out (.cells #[.int .i64 0,.int .i64 0,.int .i64 0] 178) _ aA_).2.2.2.1,(HWW.out (.cells #[.int .i64 0,.int .i64 0,.int .i64 0] 178) _ aA_).2.2.2.2.1⟩) (fail)
 clear hlk hlk2
 all_goals
  go_wp2
  simp [bodyPost,results,Tryz.results97,go_sem]
  exact ⟨rfl,aA_⟩
theorem aaI_ {l:List Nd} {gp:Nat} {A:Option Addr} {c:Nat} (w0:World) (hpl:b5_ w0 gp A c l) {gs bm W:Nat} {col:Nat} {w:World} (hcs:CS w0 gs gp bm W l w) :
  Calls Tryz.prog 97 #[.pointer (some ⟨gs,0,none⟩),c2_ l.length col] w (Ret w (.agg #[.int .i64 0,.int .i64 0,.int .i64 0])):=by
 have hsl:=a3_ hcs.blk
 have y0:=a2_ (j:=0) hcs.blk
 simp at y0
 obtain ⟨gn,gd,ge,gf',gi,cf,ci,hpa⟩:=hpl.past hcs.bel
 have z0:=hpa.c0
 have hgp:=hpa.lp
 have hne:((l.length:Int)==(l.length:Int))=true:=by simp
 have hb1:∀ o1 o2,Below w.heap.size w ((w.alloc o1).alloc o2):=fun o1 o2=>((Below.refl _ _).alloc (Nat.le_refl _) _).alloc (by simp) _
 have q0:∀ o1 o2,((w.alloc o1).alloc o2).cell? ⟨gs,0,none⟩=some (.pointer (some ⟨gp,0,none⟩)):=fun o1 o2=>((hb1 o1 o2).cell (p:=⟨gs,0,none⟩) hsl).trans y0
 have q1:∀ o1 o2,((w.alloc o1).alloc o2).cell? ⟨gp,0,none⟩=some (.slice A l.length c):=fun o1 o2=>((hb1 o1 o2).cell (p:=⟨gp,0,none⟩) hgp).trans z0
 unfold c2_
 clear hpa hcs hpl y0 z0
 go_enter Tryz.func97,Tryz.ntmps97
 go_wp2
 go_quiet (fail)
 go_wp2
 simp [bodyPost,results,Tryz.results97,go_sem]
 exact ⟨rfl,aA_⟩
theorem gE_ (x y z:Value) (W:World):(Instr.field 178 (.agg #[x,y,z]) 0).run Tryz.prog W=.ok (.agg #[x,y]) W:=by kernel_rfl
theorem tA_ (x y z:Value) (W:World):(Instr.field 178 (.agg #[x,y,z]) 1).run Tryz.prog W=.ok z W:=by kernel_rfl
theorem hI_ {w:World} {b:Nat} {x y z p q r:Value} {T:TypeId} {fr:Nat × Nat} (h:w.heap[b]?=some (.cells #[x,y,z] T fr)):(((w.setCell ⟨b,0,none⟩ p).setCell ⟨b,1,none⟩ q).setCell ⟨b,2,none⟩ r).heap[b]?=some (.cells #[p,q,r] T fr):=by
 simp [World.setCell,Array.getElem?_modify,h]
theorem cA_ {a w:World} {b g:Nat} {o:Obj} (h:a.grownBy w (some b)) (hg:a.heap[g]?=some o) (hne:g≠b):w.heap[g]?=some o:=aa8_ hg h hne
def set3 (w:World) (b:Nat) (p q r:Value):World:=((w.setCell ⟨b,0,none⟩ p).setCell ⟨b,1,none⟩ q).setCell ⟨b,2,none⟩ r
theorem CS.set3_ {w0 w:World} {gs gp bm W b:Nat} {l:List Nd} (h:CS w0 gs gp bm W l w) (h1:b≠gs) (h2:b≠bm) (h3:w0.heap.size<=b) (p q r:Value):CS w0 gs gp bm W l (set3 w b p q r) :=
 ((h.set (p:=⟨b,0,none⟩) h1 h2 h3 p).set (p:=⟨b,1,none⟩) h1 h2 h3 q).set (p:=⟨b,2,none⟩) h1 h2 h3 r
theorem jN_ {a w:World} {m b:Nat} (h:a.grownBy w (some m)) (hb:a.heap.size<=b) (p q r:Value):a.grownBy (set3 w b p q r) (some m) :=
 n2_ (n2_ (n2_ h (p:=⟨b,0,none⟩) hb p) (p:=⟨b,1,none⟩) hb q) (p:=⟨b,2,none⟩) hb r
theorem gO_ {w:World} {g b:Nat} {o:Obj} (h:w.heap[g]?=some o) (hne:g≠b) (p q r:Value):(set3 w b p q r).heap[g]?=some o :=
 gD_ (gD_ (gD_ h ⟨b,0,none⟩ p hne) ⟨b,1,none⟩ q hne) ⟨b,2,none⟩ r hne
theorem CS.store {w0 w:World} {gs gp bm W i col:Nat} {l:List Nd} (h:CS w0 gs gp bm W l w) {f:Value->Option Value} {val:Value} {o:Obj}
  (ho:∀ W':World,W'.heap[bm]?=w.heap[bm]?->(Instr.mapUpdate 174 (.map (some bm)) (.agg #[.int .i64 (i:Nat),.int .i64 (col:Nat)]) val).run Tryz.prog W'=.ok () (setBlock W' bm o)/\e4_ Tryz.prog 181 (hO_ f (.agg #[.int .i64 (i:Nat),.int .i64 (col:Nat)]) val) bm (setBlock W' bm o)/\W'.grownBy (setBlock W' bm o) (some bm))
  (hk:dL_ l W (hO_ f (.agg #[.int .i64 (i:Nat),.int .i64 (col:Nat)]) val)) (n:Nat):CS w0 gs gp bm W l (setBlock (w.drewN n) bm o):=by
 obtain ⟨_,h2,h3⟩:=ho (w.drewN n) rfl
 exact ⟨cA_ h3 h.blk h.ms,⟨_,h2,hk⟩,h.lowS,h.lowM,(below_drewN h.bel n).grown h3 h.bel.size (fun k e=>by cases e;exact h.lowM)⟩
theorem f9_ {K:Act->World->Prop} {Q:Exit->Act->World->Prop} {e:Exit} {a:Act} {w:World} (S:World->Prop) (hS:S w) (h:∀ w',S w'->Exit.then K Q e a w'):Exit.then K Q e a w:=h w hS
theorem g8_ {P:Program} {c:Code} {Q:Exit->Act->World->Prop} {a:Act} {w:World} (S:World->Prop) (hS:S w) (h:∀ w',S w'->Code.wp P c Q a w'):Code.wp P c Q a w:=h w hS
theorem yX_ {P:Prop} (h:P:=by
 go_region_held3 (fun w'=>w'.cell? ⟨gs,2,none⟩=some (.map (some bm))/\w'.cell? ⟨w.heap.size,0,none⟩=some (.int .i64 (i:Nat))/\w'.cell? ⟨w.heap.size,1,none⟩=some (.int .i64 (col:Nat)))
  (exact ⟨(HWW.out (.cells #[.int .i64 0,.int .i64 0,.int .i64 0] 178) _ aA_).2.1,(HWW.out (.cells #[.int .i64 0,.int .i64 0,.int .i64 0] 178) _ aA_).2.2.2.1,(HWW.out (.cells #[.int .i64 0,.int .i64 0,.int .i64 0] 178) _ aA_).2.2.2.2.1⟩) (fail)
 all_goals
  go_wp2_with fail
  go_meet
  case rel=>exact ⟨rfl,aA_,(HBX.out _ aA_).1,(HBX.out _ aA_).2⟩):P:=h
theorem lq32 {P:Prop} (h:P:=by
 have b1:=a2_ (j:=0) b0
 have b2:=a2_ (j:=1) b0
 have b3:=a2_ (j:=2) b0
 simp at b1 b2 b3
 simp [bodyPost,results,Tryz.results97,go_sem,b1,b2,b3]
 refine ⟨?_,HCY.out.set3_ (by omega) (by omega) (by have:=HCS.out.bel.size;omega) _ _ _,jN_ GBY.out (by omega) _ _ _⟩
 rfl):P:=h
theorem ad1_ {l:List Nd} {x:D} (hd:Doc l x) {gp:Nat} {A:Option Addr} {c:Nat} (w0:World) (hpl:b5_ w0 gp A c l) (hnl:Nds w0 w0.heap.size A l) {gs bm W:Nat} (hW:W<=100) {K:List (D × Int)} (ih:∀ y,y<szK K->hR_ w0 gs gp bm W l y) {i col:Nat} {w:World} (hrep:Rep l i K) (hcs:CS w0 gs gp bm W l w) (hcol:col+3300*szK K<=2000000)
  {f:Value->Option Value} (hmf:e4_ Tryz.prog 181 f bm w) (hv:f (c2_ i col)=none) (hlt:i<l.length) (ho:l[i].op≠8/\l[i].op≠9) :
  Calls Tryz.prog 97 #[.pointer (some ⟨gs,0,none⟩),c2_ i col] w (eU_ w0 gs gp bm W l (e1_ (b9_ W K col) (bR_ l i (bD_ W K col))) w):=by
 have h400:=hd.len
 obtain ⟨kl,hkl⟩:=jY_ (i:=i) (col:=col) (by omega) (by omega)
 obtain ⟨txt,nx,K',hst,hwk,hpt,hpc⟩:=qU_ (gp:=gp) (A:=A) (c:=c) hd hrep hlt ho
 obtain ⟨hbu,hbc⟩:=rC_ hst hwk W col
 have hch:bR_ l i (bD_ W K col)=0:=by
  unfold bR_
  rw [dif_pos hlt,if_neg]
  rintro (h|h)
  ·exact ho.1 h
  ·exact ho.2 h
 have hsz:=hst.2.1
 have htx:=hst.2.2.1
 have hcl:=hJ_ txt.data.toList col
 have hle:=oX_ W K' (aM_ col txt.data.toList) (hd.text_le _ nx K' (Nat.le_refl _) hst.1)
 have ho0:=iZ_ W txt.data.toList col
 have hl0:=n6_ txt.data.toList
 have etx:txt.data.toList.length=txt.size:=by simp
 have hcheap:=ih (szK K') hsz K' (Nat.le_refl _) nx (aM_ col txt.data.toList)
 have HREPN:=hd_ hst.1
 have hputc:=fun (W':World) hb=>l8_ (gs:=gs) (gp:=gp) (bm:=bm) (W:=W) (col:=col) hpt (by omega) (by omega) hW W' hb
 have hres:e1_ (b9_ W K col) (bR_ l i (bD_ W K col))=.agg #[.int .i64 ((dB_ (cst W col txt.data.toList) (b9_ W K' (aM_ col txt.data.toList))).1:Nat),.int .i64 ((dB_ (cst W col txt.data.toList) (b9_ W K' (aM_ col txt.data.toList))).2:Nat),.int .i64 0]:=by rw [hbc,hch];rfl
 have hknown:∀ f':Value->Option Value,dL_ l W f'->dL_ l W (hO_ f' (.agg #[.int .i64 (i:Nat),.int .i64 (col:Nat)]) (.agg #[.int .i64 ((dB_ (cst W col txt.data.toList) (b9_ W K' (aM_ col txt.data.toList))).1:Nat),.int .i64 ((dB_ (cst W col txt.data.toList) (b9_ W K' (aM_ col txt.data.toList))).2:Nat),.int .i64 0])):=fun f' hk=>by
  have:=hk.put (i:=i) (col:=col) hrep
  rw [hres] at this
  exact this
 rw [hres]
 have hplus:=fun (W':World)=>p8_ (cst W col txt.data.toList) (b9_ W K' (aM_ col txt.data.toList)) (by simp only [cst];omega) (by simp only [cst];omega) W'
 unfold e1_ c2_ at hcheap
 have hcb:(aM_ col txt.data.toList)+3300*szK K'<=2000000:=by omega
 generalize hchN:bR_ l nx (bD_ W K' (aM_ col txt.data.toList))=chN at *
 generalize hc0:cst W col txt.data.toList=c0 at *
 generalize hc1:b9_ W K' (aM_ col txt.data.toList)=c1 at *
 generalize hco:aM_ col txt.data.toList=colN at *
 obtain ⟨c0a,c0b⟩:=c0
 obtain ⟨c1a,c1b⟩:=c1
 simp only [dB_,Int.natCast_add] at *
 have HCH:=hd_ hcheap;have HPUT:=hd_ hputc;have HPL:=hd_ hplus;have HKN:=hd_ hknown;have HPC:=hd_ hpc
 clear hcheap hputc hplus hknown hpc hst hwk hbu hbc hch hsz htx hcl hle ho0 hl0 etx hres hc0 hc1 hco hchN hpt ih
 have hml:=hcs.mlt
 have hms:=hcs.ms
 have hsl:=a3_ hcs.blk
 obtain ⟨gn,gd,ge,gf',gi,cf,ci,hpa⟩:=hpl.past hcs.bel
 have z0:=hpa.c0
 have hgp:=hpa.lp
 have hne:((i:Int)==(l.length:Int))=false:=by rw [beq_eq_false_iff_ne];omega
 have y0:=a2_ (j:=0) hcs.blk
 have y2:=a2_ (j:=2) hcs.blk
 simp at y0 y2
 have hb1:∀ o1 o2,Below w.heap.size w ((w.alloc o1).alloc o2):=fun o1 o2=>((Below.refl _ _).alloc (Nat.le_refl _) _).alloc (by simp) _
 have HW:∀ (o2:Obj) W',Below (((w.alloc (.cells #[.int .i64 (i:Nat),.int .i64 (col:Nat)] 181)).alloc o2).heap.size) ((w.alloc (.cells #[.int .i64 (i:Nat),.int .i64 (col:Nat)] 181)).alloc o2) W'->fI_ gs gp bm A c l.length w.heap.size i col f W':=fun o2 W' hW'=>by
  exact uT_
 unfold fI_ at HW
 simp only [hv,Option.getD_none,Option.isSome_none] at HW
 unfold c2_
 have HBX:Hid (∀ W',Below (((w.alloc (.cells #[.int .i64 (i:Nat),.int .i64 (col:Nat)] 181)).alloc (.cells #[.int .i64 0,.int .i64 0,.int .i64 0] 178)).heap.size) ((w.alloc (.cells #[.int .i64 (i:Nat),.int .i64 (col:Nat)] 181)).alloc (.cells #[.int .i64 0,.int .i64 0,.int .i64 0] 178)) W'->W'.heap[w.heap.size]?=some (.cells #[.int .i64 (i:Nat),.int .i64 (col:Nat)] 181 (0,0))/\W'.heap[w.heap.size+1]?=some (.cells #[.int .i64 0,.int .i64 0,.int .i64 0] 178 (0,0))) :=
  hd_ (fun W' hb=>⟨a5_ ((Below.heap_alloc _ _ _ (by simp)).trans (aN_ rfl)) hb,a5_ (aN_ (by simp)) hb⟩)
 have HGS:Hid (∀ W',Below w.heap.size w W'->W'.heap[gs]?=some (.cells #[.pointer (some ⟨gp,0,none⟩),.int .i64 (W:Nat),.map (some bm)] 176 (0,0))):=hd_ (fun W' hb=>a5_ hcs.blk hb)
 have HMF:=hd_ hmf
 have HWW:=hd_ HW
 have HCS:=hd_ hcs;have HKL:=hd_ hkl
 have HPN:Hid (∀ W',Below w.heap.size w W'->b5_ W' gp A c l/\Nds W' W'.heap.size A l):=hd_ (fun W' hb=>⟨hpl.past (hcs.bel.trans (hb.mono hcs.bel.size)),hnl.past (hcs.bel.trans (hb.mono hcs.bel.size))⟩)
 clear HW hpa hkl hcs hmf hv hpl hd y0 y2 z0 hrep hnl
 go_enter Tryz.func97,Tryz.ntmps97
 go_wp2
 obtain ⟨q0,q2,z0,x0,x1,hl⟩:=HWW.out (.cells #[.int .i64 0,.int .i64 0,.int .i64 0] 178) _ (Below.refl _ _)
 clear hl
 go_quiet (fail)
 go_upto_region 3 with fail
 have hlk:∀ n:Nat,(Instr.lookup 174 (.map (some bm)) (.agg #[.int .i64 (i:Nat),.int .i64 (col:Nat)]) true).run Tryz.prog (((w.alloc (.cells #[.int .i64 (i:Nat),.int .i64 (col:Nat)] 181)).alloc (.cells #[.int .i64 0,.int .i64 0,.int .i64 0] 178)).drewN n)=.ok (.tuple #[.agg #[.int .i64 0,.int .i64 0,.int .i64 0],.bool false]) (((w.alloc (.cells #[.int .i64 (i:Nat),.int .i64 (col:Nat)] 181)).alloc (.cells #[.int .i64 0,.int .i64 0,.int .i64 0] 178)).drewN n) :=
  fun n=>(HWW.out _ _ (below_drewN (Below.refl _ _) n)).2.2.2.2.2
 have hlk2:∀ n:Nat,(Instr.lookup 174 (.map (some bm)) (.agg #[.int .i64 (i:Nat),.int .i64 (col:Nat)]) true).run Tryz.prog ((((w.alloc (.cells #[.int .i64 (i:Nat),.int .i64 (col:Nat)] 181)).alloc (.cells #[.int .i64 0,.int .i64 0,.int .i64 0] 178)).drewN n).alloc (.cells #[.int .i64 0,.int .i64 0,.int .i64 0] 178))=.ok (.tuple #[.agg #[.int .i64 0,.int .i64 0,.int .i64 0],.bool false]) ((((w.alloc (.cells #[.int .i64 (i:Nat),.int .i64 (col:Nat)] 181)).alloc (.cells #[.int .i64 0,.int .i64 0,.int .i64 0] 178)).drewN n).alloc (.cells #[.int .i64 0,.int .i64 0,.int .i64 0] 178)) :=
  fun n=>(HWW.out (.cells #[.int .i64 0,.int .i64 0,.int .i64 0] 178) ((((w.alloc (.cells #[.int .i64 (i:Nat),.int .i64 (col:Nat)] 181)).alloc (.cells #[.int .i64 0,.int .i64 0,.int .i64 0] 178)).drewN n).alloc (.cells #[.int .i64 0,.int .i64 0,.int .i64 0] 178)) aA_).2.2.2.2.2
 go_cut [6] from 31 to 39 (fun s6 wx=>s6=.bool false/\Below w.heap.size w wx/\wx.heap[w.heap.size]?=some (.cells #[.int .i64 (i:Nat),.int .i64 (col:Nat)] 181 (0,0))/\wx.heap[w.heap.size+1]?=some (.cells #[.int .i64 0,.int .i64 0,.int .i64 0] 178 (0,0)))
 case first =>
  exact yX_
 case rest =>
  obtain ⟨rfl,hBx,hX,hR⟩:=hcut
  clear hlk hlk2 x0 x1 z0 q0 q2 HBX HWW
  go_wp2_with fail
  refine g8_ (fun w3=>Below w.heap.size w w3/\w3.heap[w.heap.size]?=some (.cells #[.int .i64 (i:Nat),.int .i64 (col:Nat)] 181 (0,0))/\w3.heap[w.heap.size+1]?=some (.cells #[.int .i64 0,.int .i64 0,.int .i64 0] 178 (0,0))/\w3.heap[wc.heap.size]?=some (.cells #[.int .i64 0,.int .i64 0,.int .i64 (-1)] 178 (0,0)))
   ⟨hBx.alloc hBx.size _,(Below.heap_alloc _ _ _ (a3_ hX)).trans hX,(Below.heap_alloc _ _ _ (a3_ hR)).trans hR,aN_ rfl⟩ ?_
  rintro w3 ⟨hB3,hX3,hR3,h73⟩
  obtain ⟨b7,hb7⟩:∃ b7,wc.heap.size=b7:=⟨_,rfl⟩
  rw [hb7] at h73 ⊢
  have hb7':w.heap.size+2<=b7:=by rw [← hb7];exact a3_ hR
  clear hb7 hX hR hBx
  have e0:=a2_ (j:=0) (HGS.out w3 hB3)
  have e1:=a2_ (j:=0) hX3
  simp at e0 e1
  go_region_held3 (fun w'=>w'.cell? ⟨gs,0,none⟩=some (.pointer (some ⟨gp,0,none⟩))/\w'.cell? ⟨w.heap.size,0,none⟩=some (.int .i64 (i:Nat)))
   (first|exact ⟨e0,e1⟩|exact ⟨e0',e1'⟩)
   ((go_at_call 51;refine (HPC.out _ (HPN.out _ aA_).1 (HPN.out _ aA_).2).mono ?_;rintro e w4 ⟨rfl,hB4⟩;have e0':=(hB4.cell (p:=⟨gs,0,none⟩) (a3_ (HGS.out w3 hB3))).trans e0;have e1':=(hB4.cell (p:=⟨w.heap.size,0,none⟩) (a3_ hX3)).trans e1))
  have hB34:Below w3.heap.size w3 w4:=by first|exact hB4|exact b7_ hB4|exact cC_ hB4
  have hB4':=hB3.trans (hB34.mono hB3.size)
  have hX4:=a5_ hX3 hB34
  have hR4:=a5_ hR3 hB34
  have h74:=a5_ h73 hB34
  have e2:=a2_ (j:=1) hX4
  simp at e2
  clear hB4 hB34 hB3 hX3 hR3 h73 e0 e1 e0' e1'
  go_wp2_with (go_at_call 152;refine (HPUT.out _ (HGS.out _ hB4')).mono ?_;rintro e w5 ⟨rfl,hB5⟩)
  have hX5:=a5_ hX4 hB5
  have hR5:=a5_ hR4 hB5
  have h75:=a5_ h74 hB5
  have hB5':=hB4'.trans (hB5.mono hB4'.size)
  clear hX4 hR4 h74 hB4' hB5 e2
  refine g8_ (fun w6=>Below w.heap.size w w6/\w6.heap[w.heap.size]?=some (.cells #[.int .i64 (i:Nat),.int .i64 (col:Nat)] 181 (0,0))/\w6.heap[w.heap.size+1]?=some (.cells #[.int .i64 0,.int .i64 0,.int .i64 0] 178 (0,0))/\w6.heap[b7]?=some (.cells #[.int .i64 0,.int .i64 0,.int .i64 (-1)] 178 (0,0))/\w6.heap[w5.heap.size]?=some (.cells #[.int .i64 (c0a:Nat),.int .i64 (c0b:Nat)] 47 (0,0)))
   ⟨hB5'.alloc hB5'.size _,(Below.heap_alloc _ _ _ (a3_ hX5)).trans hX5,(Below.heap_alloc _ _ _ (a3_ hR5)).trans hR5,(Below.heap_alloc _ _ _ (a3_ h75)).trans h75,aN_ rfl⟩ ?_
  rintro w6 ⟨hB6,hX6,hR6,h76,h116⟩
  obtain ⟨b11,hb11⟩:∃ b11,w5.heap.size=b11:=⟨_,rfl⟩
  rw [hb11] at h116 ⊢
  have hb11':b7<b11:=by rw [← hb11];exact a3_ h75
  clear hb11 hX5 hR5 h75 hB5'
  have hfld:=gE_
  have HC6:Hid (∀ W',Below w6.heap.size w6 W'->CS w0 gs gp bm W l W'):=hd_ (fun W' hb=>(HCS.out.past hB6).past hb)
  have f0:=a2_ (j:=0) h116
  have f1:=a2_ (j:=1) h116
  simp at f0 f1
  go_region_held3 (fun w'=>w'.cell? ⟨b11,0,none⟩=some (.int .i64 (c0a:Nat))/\w'.cell? ⟨b11,1,none⟩=some (.int .i64 (c0b:Nat)))
   (first|exact ⟨f0,f1⟩|exact ⟨f0',f1'⟩|exact ⟨f0'',f1''⟩|(refine ⟨?_, ?_⟩ <;> (rw [World.cell?_setCell_other _ _ _ _ (by first|(simp;done)|(simp;omega)),World.cell?_setCell_other _ _ _ _ (by first|(simp;done)|(simp;omega)),World.cell?_setCell_other _ _ _ _ (by first|(simp;done)|(simp;omega))];first|exact f0''|exact f1'')))
   (first
    | (go_at_call 97;refine (HCH.out _ HREPN.out (HC6.out _ aA_) hcb).mono ?_;rintro e w7 ⟨rfl,hcs7,hg7⟩;have HC7:=hd_ hcs7;have HG7:=hd_ hg7;have h117:=cA_ hg7 h116 (by omega);have f0':=(show w7.cell? ⟨b11,0,none⟩=some (.int .i64 (c0a:Nat)) from a2_ (j:=0) h117);have f1':=(show w7.cell? ⟨b11,1,none⟩=some (.int .i64 (c0b:Nat)) from a2_ (j:=1) h117);clear hcs7 hg7)
    | (go_at_call 153;refine (HPL.out _).mono ?_;rintro e w8 ⟨rfl,hB8⟩;have HB8:=hd_ hB8;have f0'':=(hB8.cell (p:=⟨b11,0,none⟩) (a3_ h117)).trans f0';have f1'':=(hB8.cell (p:=⟨b11,1,none⟩) (a3_ h117)).trans f1';have h78:=a5_ (cA_ HG7.out h76 (by omega)) hB8;have g0:w8.cell? ⟨b7,0,none⟩=some (.int .i64 0):=a2_ (j:=0) h78;have g1:w8.cell? ⟨b7,1,none⟩=some (.int .i64 0):=a2_ (j:=1) h78;have g2:w8.cell? ⟨b7,2,none⟩=some (.int .i64 (-1)):=a2_ (j:=2) h78;have k0:=b3_ (j:=0) h78;have k1:=b3_ (j:=1) h78;have k2:=b3_ (j:=2) h78;clear hB8))
  clear f0 f1 f0' f1' f0'' f1'' hfld
  have hB78:Below w7.heap.size w7 w8:=by first|exact HB8.out|exact b7_ HB8.out|exact cC_ HB8.out
  have gb7:w.grownBy w7 (some bm):=a0_ (gG_ aA_ bm) HG7.out
  have gb8:=dC_ gb7 hB78
  have hC8:=HC7.out.past hB78
  have hX8:=a5_ (cA_ HG7.out hX6 (by omega)) hB78
  have hR8:=a5_ (cA_ HG7.out hR6 (by omega)) hB78
  clear h117 g0 g1 g2 k0 k1 k2 HB8 HG7 HC7 gb7 hB78 hB6 hX6 hR6 h76 h116 HC6
  refine f9_ (fun w9=>CS w0 gs gp bm W l w9/\w.grownBy w9 (some bm)/\w9.heap[w.heap.size]?=some (.cells #[.int .i64 (i:Nat),.int .i64 (col:Nat)] 181 (0,0))/\w9.heap[w.heap.size+1]?=some (.cells #[.int .i64 0,.int .i64 0,.int .i64 0] 178 (0,0))/\w9.heap[b7]?=some (.cells #[.int .i64 ((c0a:Int)+(c1a:Int)),.int .i64 ((c0b:Int)+(c1b:Int)),.int .i64 0] 178 (0,0))) ?c1 ?c2
  case c1=>exact ⟨hC8.set3_ (by omega) (by omega) (by have:=HCS.out.bel.size;omega) _ _ _,jN_ gb8 (by omega) _ _ _,gO_ hX8 (by omega) _ _ _,gO_ hR8 (by omega) _ _ _,hI_ h78⟩
  case c2 =>
   rintro w9 ⟨hC9,gb9,hX9,hR9,h79⟩
   clear hC8 gb8 hX8 hR8 h78
   have HC9:=hd_ hC9;have GB9:=hd_ gb9
   clear hC9 gb9
   go_wp2_with fail
   go_loopw [13] (fun s13 wr=>s13=.int .i64 0/\wr=w9) (fun _ _=>0)
   case atStart=>exact ⟨rfl,rfl⟩
   case round =>
    obtain ⟨rfl,rfl⟩:=hrel
    go_wp2_with fail
    obtain ⟨f',hm',hk'⟩:=HC9.out.map
    obtain ⟨o,ho⟩:=hm'.store oB_ Tryz.underlying174 HKL.out (.agg #[.int .i64 ((c0a:Int)+(c1a:Int)),.int .i64 ((c0b:Int)+(c1b:Int)),.int .i64 0])
    unfold c2_ at ho
    have HO:=hd_ ho
    have hk2:=HKN.out f' hk'
    have HK2:=hd_ hk2
    have hup:(Instr.mapUpdate 174 (.map (some bm)) (.agg #[.int .i64 (i:Nat),.int .i64 (col:Nat)]) (.agg #[.int .i64 ((c0a:Int)+(c1a:Int)),.int .i64 ((c0b:Int)+(c1b:Int)),.int .i64 0])).run Tryz.prog wr.drew=.ok () (setBlock wr.drew bm o):=(ho wr.drew rfl).1
    have v0:wr.cell? ⟨gs,2,none⟩=some (.map (some bm)):=a2_ (j:=2) HC9.out.blk
    have v1:wr.cell? ⟨w.heap.size,0,none⟩=some (.int .i64 (i:Nat)):=a2_ (j:=0) hX9
    have v2:wr.cell? ⟨w.heap.size,1,none⟩=some (.int .i64 (col:Nat)):=a2_ (j:=1) hX9
    have v3:wr.cell? ⟨b7,0,none⟩=some (.int .i64 ((c0a:Int)+(c1a:Int))):=a2_ (j:=0) h79
    have v4:wr.cell? ⟨b7,1,none⟩=some (.int .i64 ((c0b:Int)+(c1b:Int))):=a2_ (j:=1) h79
    have v5:wr.cell? ⟨b7,2,none⟩=some (.int .i64 0):=a2_ (j:=2) h79
    have far:∀ (g:Nat) (x:Obj),g≠bm->wr.heap[g]?=some x->(setBlock wr.drew bm o).heap[g]?=some x:=fun g x hne hg=>cA_ (HO.out wr.drew rfl).2.2 hg hne
    have FAR:=hd_ far
    have u0:(setBlock wr.drew bm o).cell? ⟨gs,2,none⟩=some (.map (some bm)):=a2_ (j:=2) (far gs _ hms HC9.out.blk)
    have u1:(setBlock wr.drew bm o).cell? ⟨w.heap.size,0,none⟩=some (.int .i64 (i:Nat)):=a2_ (j:=0) (far _ _ (by omega) hX9)
    have u2:(setBlock wr.drew bm o).cell? ⟨w.heap.size,1,none⟩=some (.int .i64 (col:Nat)):=a2_ (j:=1) (far _ _ (by omega) hX9)
    have u3:(setBlock wr.drew bm o).cell? ⟨b7,0,none⟩=some (.int .i64 ((c0a:Int)+(c1a:Int))):=a2_ (j:=0) (far _ _ (by omega) h79)
    have u4:(setBlock wr.drew bm o).cell? ⟨b7,1,none⟩=some (.int .i64 ((c0b:Int)+(c1b:Int))):=a2_ (j:=1) (far _ _ (by omega) h79)
    have u5':(setBlock wr.drew bm o).cell? ⟨b7,2,none⟩=some (.int .i64 0):=a2_ (j:=2) (far _ _ (by omega) h79)
    clear ho hk2 hk' hm' far
    go_region_held3 (fun w'=>w'.cell? ⟨gs,2,none⟩=some (.map (some bm))/\w'.cell? ⟨w.heap.size,0,none⟩=some (.int .i64 (i:Nat))/\w'.cell? ⟨w.heap.size,1,none⟩=some (.int .i64 (col:Nat))/\w'.cell? ⟨b7,0,none⟩=some (.int .i64 ((c0a:Int)+(c1a:Int)))/\w'.cell? ⟨b7,1,none⟩=some (.int .i64 ((c0b:Int)+(c1b:Int)))/\w'.cell? ⟨b7,2,none⟩=some (.int .i64 0))
     (first|exact ⟨v0,v1,v2,v3,v4,v5⟩|exact ⟨u0,u1,u2,u3,u4,u5'⟩) (fail)
    clear hup u0 u1 u2 u3 u4 u5' v0 v1 v2 v3 v4 v5
    refine f9_ (fun wy=>CS w0 gs gp bm W l wy/\w.grownBy wy (some bm)/\wy.heap[w.heap.size+1]?=some (.cells #[.int .i64 0,.int .i64 0,.int .i64 0] 178 (0,0))/\wy.heap[b7]?=some (.cells #[.int .i64 ((c0a:Int)+(c1a:Int)),.int .i64 ((c0b:Int)+(c1b:Int)),.int .i64 0] 178 (0,0))) ⟨HC9.out.store HO.out HK2.out 1,a0_ (iE_ GB9.out) (HO.out wr.drew rfl).2.2,FAR.out _ _ (by omega) hR9,FAR.out _ _ (by omega) h79⟩ ?_
    rintro wy ⟨hCy,gby,hRy,h7y⟩
    have a0:=a2_ (j:=0) h7y
    have a1:=a2_ (j:=1) h7y
    have a2:=a2_ (j:=2) h7y
    have a3:=a2_ (j:=0) hRy
    have a4:=a2_ (j:=1) hRy
    have a5:=a2_ (j:=2) hRy
    have a6:=b3_ (j:=0) hRy
    have a7:=b3_ (j:=1) hRy
    have a8:=b3_ (j:=2) hRy
    simp at a0 a1 a2 a3 a4 a5
    have HCY:=hd_ hCy;have GBY:=hd_ gby;have HRY:=hd_ hRy
    clear hCy gby hRy h7y hX9 hR9 h79
    go_wp2
    have b0:=hI_ (p:=.int .i64 ((c0a:Int)+(c1a:Int))) (q:=.int .i64 ((c0b:Int)+(c1b:Int))) (r:=.int .i64 0) HRY.out
    exact lq32
end Go.Proofs.YtddfdmopaeghnacGreatDoor
namespace Go.Proofs.YtddfdmopaeghnacGreatDoor
open Go.RowKit Go.Maps Go.ChangeMaps
def set2 (w:World) (b:Nat) (p q:Value):World:=(w.setCell ⟨b,0,none⟩ p).setCell ⟨b,1,none⟩ q
theorem CS.set2_ {w0 w:World} {gs gp bm W b:Nat} {l:List Nd} (h:CS w0 gs gp bm W l w) (h1:b≠gs) (h2:b≠bm) (h3:w0.heap.size<=b) (p q:Value):CS w0 gs gp bm W l (set2 w b p q) :=
 (h.set (p:=⟨b,0,none⟩) h1 h2 h3 p).set (p:=⟨b,1,none⟩) h1 h2 h3 q
theorem o5_ {a w:World} {m b:Nat} (h:a.grownBy w (some m)) (hb:a.heap.size<=b) (p q:Value):a.grownBy (set2 w b p q) (some m) :=
 n2_ (n2_ h (p:=⟨b,0,none⟩) hb p) (p:=⟨b,1,none⟩) hb q
theorem eH_ {w:World} {g b:Nat} {o:Obj} (h:w.heap[g]?=some o) (hne:g≠b) (p q:Value):(set2 w b p q).heap[g]?=some o :=
 gD_ (gD_ h ⟨b,0,none⟩ p hne) ⟨b,1,none⟩ q hne
theorem i8_ {w:World} {b:Nat} {x y p q:Value} {T:TypeId} {fr:Nat × Nat} (h:w.heap[b]?=some (.cells #[x,y] T fr)):((w.setCell ⟨b,0,none⟩ p).setCell ⟨b,1,none⟩ q).heap[b]?=some (.cells #[p,q] T fr):=by
 simp [World.setCell,Array.getElem?_modify,h]
theorem lq25 {P:Prop} (h:P:=by
 ·have H7:=hd_ h7c
  clear h7c
  go_wp2_with fail
  obtain ⟨f',hm',hk'⟩:=HC.out.map
  obtain ⟨o,ho⟩:=hm'.store oB_ Tryz.underlying174 HKL.out (.agg #[.int .i64 (pa1:Nat),.int .i64 (pb1:Nat),.int .i64 1])
  unfold c2_ at ho
  have HO:=hd_ ho
  have hk2:=HKN.out f' hk'
  have HK2:=hd_ hk2
  have hup:(Instr.mapUpdate 174 (.map (some bm)) (.agg #[.int .i64 (i:Nat),.int .i64 (col:Nat)]) (.agg #[.int .i64 (pa1:Nat),.int .i64 (pb1:Nat),.int .i64 1])).run Tryz.prog wr.drew=.ok () (setBlock wr.drew bm o):=(ho wr.drew rfl).1
  have v0:wr.cell? ⟨gs,2,none⟩=some (.map (some bm)):=a2_ (j:=2) HC.out.blk
  have v1:wr.cell? ⟨w.heap.size,0,none⟩=some (.int .i64 (i:Nat)):=a2_ (j:=0) HX.out
  have v2:wr.cell? ⟨w.heap.size,1,none⟩=some (.int .i64 (col:Nat)):=a2_ (j:=1) HX.out
  have v3:wr.cell? ⟨b7,0,none⟩=some (.int .i64 (pa1:Nat)):=a2_ (j:=0) H7.out
  have v4:wr.cell? ⟨b7,1,none⟩=some (.int .i64 (pb1:Nat)):=a2_ (j:=1) H7.out
  have v5:wr.cell? ⟨b7,2,none⟩=some (.int .i64 1):=a2_ (j:=2) H7.out
  have far:∀ (g:Nat) (x:Obj),g≠bm->wr.heap[g]?=some x->(setBlock wr.drew bm o).heap[g]?=some x:=fun g x hne hg=>cA_ (HO.out wr.drew rfl).2.2 hg hne
  have FAR:=hd_ far
  have u0:(setBlock wr.drew bm o).cell? ⟨gs,2,none⟩=some (.map (some bm)):=a2_ (j:=2) (far gs _ hms HC.out.blk)
  have u1:(setBlock wr.drew bm o).cell? ⟨w.heap.size,0,none⟩=some (.int .i64 (i:Nat)):=a2_ (j:=0) (far _ _ (by omega) HX.out)
  have u2:(setBlock wr.drew bm o).cell? ⟨w.heap.size,1,none⟩=some (.int .i64 (col:Nat)):=a2_ (j:=1) (far _ _ (by omega) HX.out)
  have u3:(setBlock wr.drew bm o).cell? ⟨b7,0,none⟩=some (.int .i64 (pa1:Nat)):=a2_ (j:=0) (far _ _ (by omega) H7.out)
  have u4:(setBlock wr.drew bm o).cell? ⟨b7,1,none⟩=some (.int .i64 (pb1:Nat)):=a2_ (j:=1) (far _ _ (by omega) H7.out)
  have u5':(setBlock wr.drew bm o).cell? ⟨b7,2,none⟩=some (.int .i64 1):=a2_ (j:=2) (far _ _ (by omega) H7.out)
  clear ho hk2 hk' hm' far
  go_region_held3 (fun w'=>w'.cell? ⟨gs,2,none⟩=some (.map (some bm))/\w'.cell? ⟨w.heap.size,0,none⟩=some (.int .i64 (i:Nat))/\w'.cell? ⟨w.heap.size,1,none⟩=some (.int .i64 (col:Nat))/\w'.cell? ⟨b7,0,none⟩=some (.int .i64 (pa1:Nat))/\w'.cell? ⟨b7,1,none⟩=some (.int .i64 (pb1:Nat))/\w'.cell? ⟨b7,2,none⟩=some (.int .i64 1))
   (first|exact ⟨v0,v1,v2,v3,v4,v5⟩|exact ⟨u0,u1,u2,u3,u4,u5'⟩) (fail)
  clear hup u0 u1 u2 u3 u4 u5' v0 v1 v2 v3 v4 v5
  refine f9_ (fun wy=>CS w0 gs gp bm W l wy/\w.grownBy wy (some bm)/\wy.heap[w.heap.size+1]?=some (.cells #[.int .i64 0,.int .i64 0,.int .i64 0] 178 (0,0))/\wy.heap[b7]?=some (.cells #[.int .i64 (pa1:Nat),.int .i64 (pb1:Nat),.int .i64 1] 178 (0,0))) ⟨HC.out.store HO.out HK2.out 1,a0_ (iE_ GB.out) (HO.out wr.drew rfl).2.2,FAR.out _ _ (by omega) HR.out,FAR.out _ _ (by omega) H7.out⟩ ?_
  rintro wy ⟨hCy,gby,hRy,h7y⟩
  have a0:=a2_ (j:=0) h7y
  have a1:=a2_ (j:=1) h7y
  have a2:=a2_ (j:=2) h7y
  have a3:=a2_ (j:=0) hRy
  have a4:=a2_ (j:=1) hRy
  have a5:=a2_ (j:=2) hRy
  have a6:=b3_ (j:=0) hRy
  have a7:=b3_ (j:=1) hRy
  have a8:=b3_ (j:=2) hRy
  simp at a0 a1 a2 a3 a4 a5
  have HCY:=hd_ hCy;have GBY:=hd_ gby;have HRY:=hd_ hRy
  clear hCy gby hRy h7y HX HR H7
  go_wp2
  have b0:=hI_ (p:=.int .i64 (pa1:Nat)) (q:=.int .i64 (pb1:Nat)) (r:=.int .i64 1) HRY.out
  have b1:=a2_ (j:=0) b0
  have b2:=a2_ (j:=1) b0
  have b3:=a2_ (j:=2) b0
  simp at b1 b2 b3
  simp [bodyPost,results,Tryz.results97,go_sem,b1,b2,b3]
  refine ⟨?_,HCY.out.set3_ (by omega) (by omega) (by have:=HCS.out.bel.size;omega) _ _ _,jN_ GBY.out (by omega) _ _ _⟩
  rfl):P:=h
theorem ahZ_ {l:List Nd} (h400:l.length<=400) {gp:Nat} {A:Option Addr} {c:Nat} (w0:World) (hpl:b5_ w0 gp A c l) (hnl:Nds w0 w0.heap.size A l) {gs bm W:Nat} {i col:Nat} {w:World} (hcs:CS w0 gs gp bm W l w) (hcol:col<=2000000)
  {f:Value->Option Value} (hmf:e4_ Tryz.prog 181 f bm w) (hv:f (c2_ i col)=none) (hlt:i<l.length) {t0 t1:ByteArray} {i0 i1 ea1 eb1 col1 da1 db1 pa1 pb1:Nat} {ch1:Int}
  (hpc:∀ w,b5_ w gp A c l->Nds w w.heap.size A l->Calls Tryz.prog 51 #[.pointer (some ⟨gp,0,none⟩),.int .i64 i] w (Ret w (.tuple #[.string t1,.int .i64 (i:Nat),.bool true])))
  (hch0:∀ w,b5_ w gp A c l->Nds w w.heap.size A l->Calls Tryz.prog 52 #[.pointer (some ⟨gp,0,none⟩),.int .i64 i,.int .i64 0] w (Ret w (.tuple #[.string t0,.int .i64 (i0:Nat),.bool false])))
  (hch1:∀ w,b5_ w gp A c l->Nds w w.heap.size A l->Calls Tryz.prog 52 #[.pointer (some ⟨gp,0,none⟩),.int .i64 i,.int .i64 1] w (Ret w (.tuple #[.string t1,.int .i64 (i1:Nat),.bool true])))
  (hput1:∀ W':World,W'.heap[gs]?=some (.cells #[.pointer (some ⟨gp,0,none⟩),.int .i64 (W:Nat),.map (some bm)] 176 (0,0))->Calls Tryz.prog 152 #[.pointer (some ⟨gs,0,none⟩),.string t1,.int .i64 (col:Nat)] W' (Ret W' (.tuple #[.agg #[.int .i64 (ea1:Nat),.int .i64 (eb1:Nat)],.int .i64 (col1:Nat)])))
  (hcp1:∀ W':World,CS w0 gs gp bm W l W'->Calls Tryz.prog 97 #[.pointer (some ⟨gs,0,none⟩),.agg #[.int .i64 (i1:Nat),.int .i64 (col1:Nat)]] W' (eU_ w0 gs gp bm W l (.agg #[.int .i64 (da1:Nat),.int .i64 (db1:Nat),.int .i64 ch1]) W'))
  (hpl1:∀ W':World,Calls Tryz.prog 153 #[.agg #[.int .i64 (ea1:Nat),.int .i64 (eb1:Nat)],.agg #[.int .i64 (da1:Nat),.int .i64 (db1:Nat)]] W' (Ret W' (.agg #[.int .i64 (pa1:Nat),.int .i64 (pb1:Nat)])))
  (hkn:∀ f':Value->Option Value,dL_ l W f'->dL_ l W (hO_ f' (.agg #[.int .i64 (i:Nat),.int .i64 (col:Nat)]) (.agg #[.int .i64 (pa1:Nat),.int .i64 (pb1:Nat),.int .i64 1]))) :
  Calls Tryz.prog 97 #[.pointer (some ⟨gs,0,none⟩),c2_ i col] w (eU_ w0 gs gp bm W l (.agg #[.int .i64 (pa1:Nat),.int .i64 (pb1:Nat),.int .i64 1]) w):=by
 obtain ⟨kl,hkl⟩:=jY_ (i:=i) (col:=col) (by omega) (by omega)
 have HPC:=hd_ hpc;have HCH0:=hd_ hch0;have HCH1:=hd_ hch1;have HPUT1:=hd_ hput1;have HCP1:=hd_ hcp1;have HPL1:=hd_ hpl1;have HKN:=hd_ hkn
 clear hpc hch0 hch1 hput1 hcp1 hpl1 hkn
 have hml:=hcs.mlt
 have hms:=hcs.ms
 have hsl:=a3_ hcs.blk
 obtain ⟨gn,gd,ge,gf',gi,cf,ci,hpa⟩:=hpl.past hcs.bel
 have z0:=hpa.c0
 have hgp:=hpa.lp
 have hne:((i:Int)==(l.length:Int))=false:=by rw [beq_eq_false_iff_ne];omega
 have y0:=a2_ (j:=0) hcs.blk
 have y2:=a2_ (j:=2) hcs.blk
 simp at y0 y2
 have hb1:∀ o1 o2,Below w.heap.size w ((w.alloc o1).alloc o2):=fun o1 o2=>((Below.refl _ _).alloc (Nat.le_refl _) _).alloc (by simp) _
 have HW:∀ (o2:Obj) W',Below (((w.alloc (.cells #[.int .i64 (i:Nat),.int .i64 (col:Nat)] 181)).alloc o2).heap.size) ((w.alloc (.cells #[.int .i64 (i:Nat),.int .i64 (col:Nat)] 181)).alloc o2) W'->fI_ gs gp bm A c l.length w.heap.size i col f W':=fun o2 W' hW'=>by
  exact uT_
 unfold fI_ at HW
 simp only [hv,Option.getD_none,Option.isSome_none] at HW
 unfold c2_
 have HBX:Hid (∀ W',Below (((w.alloc (.cells #[.int .i64 (i:Nat),.int .i64 (col:Nat)] 181)).alloc (.cells #[.int .i64 0,.int .i64 0,.int .i64 0] 178)).heap.size) ((w.alloc (.cells #[.int .i64 (i:Nat),.int .i64 (col:Nat)] 181)).alloc (.cells #[.int .i64 0,.int .i64 0,.int .i64 0] 178)) W'->W'.heap[w.heap.size]?=some (.cells #[.int .i64 (i:Nat),.int .i64 (col:Nat)] 181 (0,0))/\W'.heap[w.heap.size+1]?=some (.cells #[.int .i64 0,.int .i64 0,.int .i64 0] 178 (0,0))) :=
  hd_ (fun W' hb=>⟨a5_ ((Below.heap_alloc _ _ _ (by simp)).trans (aN_ rfl)) hb,a5_ (aN_ (by simp)) hb⟩)
 have HGS:Hid (∀ W',Below w.heap.size w W'->W'.heap[gs]?=some (.cells #[.pointer (some ⟨gp,0,none⟩),.int .i64 (W:Nat),.map (some bm)] 176 (0,0))):=hd_ (fun W' hb=>a5_ hcs.blk hb)
 have HWW:=hd_ HW
 have HCS:=hd_ hcs;have HKL:=hd_ hkl
 have HPN:Hid (∀ W',Below w0.heap.size w0 W'->b5_ W' gp A c l/\Nds W' W'.heap.size A l):=hd_ (fun W' hb=>⟨hpl.past hb,hnl.past hb⟩)
 have HPN1:Hid (∀ W',Below w.heap.size w W'->b5_ W' gp A c l/\Nds W' W'.heap.size A l):=hd_ (fun W' hb=>HPN.out W' (hcs.bel.trans (hb.mono hcs.bel.size)))
 clear HW hpa hkl hcs hmf hv hpl y0 y2 z0 hnl
 go_enter Tryz.func97,Tryz.ntmps97
 go_wp2
 obtain ⟨q0,q2,z0,x0,x1,hl⟩:=HWW.out (.cells #[.int .i64 0,.int .i64 0,.int .i64 0] 178) _ (Below.refl _ _)
 clear hl
 go_quiet (fail)
 go_upto_region 3 with fail
 have hlk:∀ n:Nat,(Instr.lookup 174 (.map (some bm)) (.agg #[.int .i64 (i:Nat),.int .i64 (col:Nat)]) true).run Tryz.prog (((w.alloc (.cells #[.int .i64 (i:Nat),.int .i64 (col:Nat)] 181)).alloc (.cells #[.int .i64 0,.int .i64 0,.int .i64 0] 178)).drewN n)=.ok (.tuple #[.agg #[.int .i64 0,.int .i64 0,.int .i64 0],.bool false]) (((w.alloc (.cells #[.int .i64 (i:Nat),.int .i64 (col:Nat)] 181)).alloc (.cells #[.int .i64 0,.int .i64 0,.int .i64 0] 178)).drewN n) :=
  fun n=>(HWW.out _ _ (below_drewN (Below.refl _ _) n)).2.2.2.2.2
 have hlk2:∀ n:Nat,(Instr.lookup 174 (.map (some bm)) (.agg #[.int .i64 (i:Nat),.int .i64 (col:Nat)]) true).run Tryz.prog ((((w.alloc (.cells #[.int .i64 (i:Nat),.int .i64 (col:Nat)] 181)).alloc (.cells #[.int .i64 0,.int .i64 0,.int .i64 0] 178)).drewN n).alloc (.cells #[.int .i64 0,.int .i64 0,.int .i64 0] 178))=.ok (.tuple #[.agg #[.int .i64 0,.int .i64 0,.int .i64 0],.bool false]) ((((w.alloc (.cells #[.int .i64 (i:Nat),.int .i64 (col:Nat)] 181)).alloc (.cells #[.int .i64 0,.int .i64 0,.int .i64 0] 178)).drewN n).alloc (.cells #[.int .i64 0,.int .i64 0,.int .i64 0] 178)) :=
  fun n=>(HWW.out (.cells #[.int .i64 0,.int .i64 0,.int .i64 0] 178) ((((w.alloc (.cells #[.int .i64 (i:Nat),.int .i64 (col:Nat)] 181)).alloc (.cells #[.int .i64 0,.int .i64 0,.int .i64 0] 178)).drewN n).alloc (.cells #[.int .i64 0,.int .i64 0,.int .i64 0] 178)) aA_).2.2.2.2.2
 go_cut [6] from 31 to 39 (fun s6 wx=>s6=.bool false/\Below w.heap.size w wx/\wx.heap[w.heap.size]?=some (.cells #[.int .i64 (i:Nat),.int .i64 (col:Nat)] 181 (0,0))/\wx.heap[w.heap.size+1]?=some (.cells #[.int .i64 0,.int .i64 0,.int .i64 0] 178 (0,0)))
 case first =>
  exact yX_
 case rest =>
  obtain ⟨rfl,hBx,hX,hR⟩:=hcut
  clear hlk hlk2 x0 x1 z0 q0 q2 HBX HWW
  go_wp2_with fail
  refine g8_ (fun w3=>Below w.heap.size w w3/\w3.heap[w.heap.size]?=some (.cells #[.int .i64 (i:Nat),.int .i64 (col:Nat)] 181 (0,0))/\w3.heap[w.heap.size+1]?=some (.cells #[.int .i64 0,.int .i64 0,.int .i64 0] 178 (0,0))/\w3.heap[wc.heap.size]?=some (.cells #[.int .i64 0,.int .i64 0,.int .i64 (-1)] 178 (0,0)))
   ⟨hBx.alloc hBx.size _,(Below.heap_alloc _ _ _ (a3_ hX)).trans hX,(Below.heap_alloc _ _ _ (a3_ hR)).trans hR,aN_ rfl⟩ ?_
  rintro w3 ⟨hB3,hX3,hR3,h73⟩
  obtain ⟨b7,hb7⟩:∃ b7,wc.heap.size=b7:=⟨_,rfl⟩
  rw [hb7] at h73 ⊢
  have hb7':w.heap.size+2<=b7:=by rw [← hb7];exact a3_ hR
  clear hb7 hX hR hBx
  have e0:=a2_ (j:=0) (HGS.out w3 hB3)
  have e1:=a2_ (j:=0) hX3
  simp at e0 e1
  go_region_held3 (fun w'=>w'.cell? ⟨gs,0,none⟩=some (.pointer (some ⟨gp,0,none⟩))/\w'.cell? ⟨w.heap.size,0,none⟩=some (.int .i64 (i:Nat)))
   (first|exact ⟨e0,e1⟩|exact ⟨e0',e1'⟩)
   ((go_at_call 51;refine (HPC.out _ (HPN1.out _ aA_).1 (HPN1.out _ aA_).2).mono ?_;rintro e w4 ⟨rfl,hB4⟩;have e0':=(hB4.cell (p:=⟨gs,0,none⟩) (a3_ (HGS.out w3 hB3))).trans e0;have e1':=(hB4.cell (p:=⟨w.heap.size,0,none⟩) (a3_ hX3)).trans e1))
  have hB34:Below w3.heap.size w3 w4:=by first|exact hB4|exact b7_ hB4|exact cC_ hB4
  have HC4:=hd_ (HCS.out.past (hB3.trans (hB34.mono hB3.size)))
  have GB4:=hd_ (gG_ (hB3.trans (hB34.mono hB3.size)) bm)
  have HX4:=hd_ (a5_ hX3 hB34)
  have HR4:=hd_ (a5_ hR3 hB34)
  have H74:=hd_ (a5_ h73 hB34)
  clear hB4 hB34 hB3 hX3 hR3 h73 e0 e1 e0' e1'
  go_wp2_with fail
  go_loopw [13] (fun s13 wr=>CS w0 gs gp bm W l wr/\w.grownBy wr (some bm)/\wr.heap[w.heap.size]?=some (.cells #[.int .i64 (i:Nat),.int .i64 (col:Nat)] 181 (0,0))/\wr.heap[w.heap.size+1]?=some (.cells #[.int .i64 0,.int .i64 0,.int .i64 0] 178 (0,0))/\((s13=.int .i64 0/\wr.heap[b7]?=some (.cells #[.int .i64 0,.int .i64 0,.int .i64 (-1)] 178 (0,0)))∨(s13=.int .i64 1/\wr.heap[b7]?=some (.cells #[.int .i64 0,.int .i64 0,.int .i64 (-1)] 178 (0,0)))∨(s13=.int .i64 2/\wr.heap[b7]?=some (.cells #[.int .i64 (pa1:Nat),.int .i64 (pb1:Nat),.int .i64 1] 178 (0,0))))) (fun s13 _=>2-(intOf s13).toNat)
  case atStart=>exact ⟨HC4.out,GB4.out,HX4.out,HR4.out,.inl ⟨rfl,H74.out⟩⟩
  case round =>
   obtain ⟨hcr,hgr,hxr,hrr,h7r⟩:=hrel
   have HC:=hd_ hcr;have GB:=hd_ hgr;have HX:=hd_ hxr;have HR:=hd_ hrr
   have HPW:Hid (∀ W',Below wr.heap.size wr W'->b5_ W' gp A c l/\Nds W' W'.heap.size A l):=hd_ (fun W' hb=>HPN.out W' (hcr.bel.trans (hb.mono hcr.bel.size)))
   clear hcr hgr hxr hrr HC4 GB4 HX4 HR4 H74
   rcases h7r with ⟨rfl,h7c⟩|⟨rfl,h7c⟩|⟨rfl,h7c⟩
   ·have H7:=hd_ h7c
    clear h7c
    have e0:=a2_ (j:=0) HC.out.blk
    have e1:=a2_ (j:=0) HX.out
    simp at e0 e1
    go_wp2_with fail
    go_region_held3 (fun w'=>w'.cell? ⟨gs,0,none⟩=some (.pointer (some ⟨gp,0,none⟩))/\w'.cell? ⟨w.heap.size,0,none⟩=some (.int .i64 (i:Nat)))
     (first|exact ⟨e0,e1⟩|exact ⟨e0',e1'⟩)
     ((go_at_call 52;refine (HCH0.out _ (HPW.out _ aA_).1 (HPW.out _ aA_).2).mono ?_;rintro e w4 ⟨rfl,hB4⟩;have e0':=(hB4.cell (p:=⟨gs,0,none⟩) (a3_ HC.out.blk)).trans e0;have e1':=(hB4.cell (p:=⟨w.heap.size,0,none⟩) (a3_ HX.out)).trans e1))
    have hB34:Below wr.heap.size wr w4:=by first|exact hB4|exact b7_ hB4|exact cC_ hB4
    go_wp2_with fail
    go_roundw
    case measure=>simp [intOf]
    case rel=>exact ⟨HC.out.past hB34,dC_ GB.out hB34,a5_ HX.out hB34,a5_ HR.out hB34,.inr (.inl ⟨by first|rfl|go_num,a5_ H7.out hB34⟩)⟩
   ·have H7:=hd_ h7c
    clear h7c
    have e0:=a2_ (j:=0) HC.out.blk
    have e1:=a2_ (j:=0) HX.out
    simp at e0 e1
    go_wp2_with fail
    go_region_held3 (fun w'=>w'.cell? ⟨gs,0,none⟩=some (.pointer (some ⟨gp,0,none⟩))/\w'.cell? ⟨w.heap.size,0,none⟩=some (.int .i64 (i:Nat)))
     (first|exact ⟨e0,e1⟩|exact ⟨e0',e1'⟩)
     ((go_at_call 52;refine (HCH1.out _ (HPW.out _ aA_).1 (HPW.out _ aA_).2).mono ?_;rintro e w4 ⟨rfl,hB4⟩;have e0':=(hB4.cell (p:=⟨gs,0,none⟩) (a3_ HC.out.blk)).trans e0;have e1':=(hB4.cell (p:=⟨w.heap.size,0,none⟩) (a3_ HX.out)).trans e1))
    have hB34:Below wr.heap.size wr w4:=by first|exact hB4|exact b7_ hB4|exact cC_ hB4
    have HC4:=hd_ (HC.out.past hB34);have GB4:=hd_ (dC_ GB.out hB34);have HX4:=hd_ (a5_ HX.out hB34);have HR4:=hd_ (a5_ HR.out hB34);have H74:=hd_ (a5_ H7.out hB34)
    have e2:=a2_ (j:=1) HX4.out
    simp at e2
    clear hB4 hB34 e0 e1 e0' e1' HC GB HX HR H7
    go_wp2_with (go_at_call 152;refine (HPUT1.out _ HC4.out.blk).mono ?_;rintro e w5 ⟨rfl,hB5⟩)
    refine g8_ (fun w6=>CS w0 gs gp bm W l w6/\w.grownBy w6 (some bm)/\w6.heap[w.heap.size]?=some (.cells #[.int .i64 (i:Nat),.int .i64 (col:Nat)] 181 (0,0))/\w6.heap[w.heap.size+1]?=some (.cells #[.int .i64 0,.int .i64 0,.int .i64 0] 178 (0,0))/\w6.heap[b7]?=some (.cells #[.int .i64 0,.int .i64 0,.int .i64 (-1)] 178 (0,0))/\w6.heap[w5.heap.size]?=some (.cells #[.int .i64 (ea1:Nat),.int .i64 (eb1:Nat)] 47 (0,0)))
     ⟨(HC4.out.past hB5).past ((Below.refl _ _).alloc (Nat.le_refl _) _),lP_ (dC_ GB4.out hB5) _,(Below.heap_alloc _ _ _ (a3_ (a5_ HX4.out hB5))).trans (a5_ HX4.out hB5),(Below.heap_alloc _ _ _ (a3_ (a5_ HR4.out hB5))).trans (a5_ HR4.out hB5),(Below.heap_alloc _ _ _ (a3_ (a5_ H74.out hB5))).trans (a5_ H74.out hB5),aN_ rfl⟩ ?_
    rintro w6 ⟨hc6,hg6,hX6,hR6,h76,h116⟩
    obtain ⟨b11,hb11⟩:∃ b11,w5.heap.size=b11:=⟨_,rfl⟩
    rw [hb11] at h116 ⊢
    have hb11':b7<b11:=by rw [← hb11];exact a3_ (a5_ H74.out hB5)
    clear hb11 hB5 e2 HC4 GB4 HX4 HR4 H74
    have f0:=a2_ (j:=0) h116
    have f1:=a2_ (j:=1) h116
    simp at f0 f1
    have hfld:=gE_
    have HC6:Hid (∀ W',Below w6.heap.size w6 W'->CS w0 gs gp bm W l W'):=hd_ (fun W' hb=>hc6.past hb)
    have HG6:=hd_ hg6
    clear hc6 hg6
    go_region_with (first
      | (go_at_call 97;refine (HCP1.out _ (HC6.out _ aA_)).mono ?_;rintro e w7 ⟨rfl,hcs7,hg7⟩;have HC7:=hd_ hcs7;have HG7:=hd_ hg7;have h117:=cA_ hg7 h116 (by omega);have f0':=(show w7.cell? ⟨b11,0,none⟩=some (.int .i64 (ea1:Nat)) from a2_ (j:=0) h117);have f1':=(show w7.cell? ⟨b11,1,none⟩=some (.int .i64 (eb1:Nat)) from a2_ (j:=1) h117);clear hcs7 hg7)
      | (go_at_call 153;refine (HPL1.out _).mono ?_;rintro e w8 ⟨rfl,hB8⟩;have HB8:=hd_ hB8;have f0'':=(hB8.cell (p:=⟨b11,0,none⟩) (a3_ h117)).trans f0';have f1'':=(hB8.cell (p:=⟨b11,1,none⟩) (a3_ h117)).trans f1';have k0:=(hB8.frozen (p:=⟨b11,0,none⟩) (a3_ h117)).trans (b3_ (j:=0) h117);have k1:=(hB8.frozen (p:=⟨b11,1,none⟩) (a3_ h117)).trans (b3_ (j:=1) h117);clear hB8))
    all_goals
     have hB78:Below w7.heap.size w7 w8:=by first|exact HB8.out|exact b7_ HB8.out|exact cC_ HB8.out
     have gb7:w.grownBy w7 (some bm):=a0_ (by first|exact HG6.out|exact iE_ HG6.out|exact lQ_ HG6.out _) HG7.out
     have HG8:=hd_ (dC_ gb7 hB78)
     have HC8:=hd_ (HC7.out.past hB78)
     have hX8:=a5_ (cA_ HG7.out hX6 (by omega)) hB78
     have hR8:=a5_ (cA_ HG7.out hR6 (by omega)) hB78
     have h78:=a5_ (cA_ HG7.out h76 (by omega)) hB78
     have h118:=a5_ h117 hB78
     clear f0 f1 f0' f1' f0'' f1'' k0 k1 hfld h117 HB8 HG7 HC7 gb7 hB78 hX6 hR6 h76 h116 HC6 HG6
     refine f9_ (fun w9=>CS w0 gs gp bm W l w9/\w.grownBy w9 (some bm)/\w9.heap[w.heap.size]?=some (.cells #[.int .i64 (i:Nat),.int .i64 (col:Nat)] 181 (0,0))/\w9.heap[w.heap.size+1]?=some (.cells #[.int .i64 0,.int .i64 0,.int .i64 0] 178 (0,0))/\w9.heap[b7]?=some (.cells #[.int .i64 0,.int .i64 0,.int .i64 (-1)] 178 (0,0))/\w9.heap[b11]?=some (.cells #[.int .i64 (pa1:Nat),.int .i64 (pb1:Nat)] 47 (0,0)))
      ⟨HC8.out.set2_ (by omega) (by omega) (by have:=HCS.out.bel.size;omega) _ _,o5_ HG8.out (by omega) _ _,eH_ hX8 (by omega) _ _,eH_ hR8 (by omega) _ _,eH_ h78 (by omega) _ _,i8_ h118⟩ ?_
     rintro w9 ⟨hC9,gb9,hX9,hR9,h79,h119⟩
     have HC9:=hd_ hC9;have GB9:=hd_ gb9;have HX9:=hd_ hX9;have HR9:=hd_ hR9;have H79:=hd_ h79;have H119:=hd_ h119
     clear hC9 gb9 hX9 hR9 h79 h119 hX8 hR8 h78 h118 HC8 HG8
     have m0:=a2_ (j:=0) H79.out
     have m1:=a2_ (j:=1) H79.out
     have m2:=a2_ (j:=2) H79.out
     have m3:=a2_ (j:=0) H119.out
     have m4:=a2_ (j:=1) H119.out
     have m5:=b3_ (j:=0) H79.out
     have m6:=b3_ (j:=1) H79.out
     have m7:=b3_ (j:=2) H79.out
     simp at m0 m1 m2 m3 m4
     go_wp2_with fail
     go_roundw
     case measure=>simp [intOf]
     case rel=>exact ⟨HC9.out.set3_ (by omega) (by omega) (by have:=HCS.out.bel.size;omega) _ _ _,jN_ GB9.out (by omega) _ _ _,gO_ HX9.out (by omega) _ _ _,gO_ HR9.out (by omega) _ _ _,.inr (.inr ⟨by first|rfl|go_num,hI_ H79.out⟩)⟩
   exact lq25
theorem lq24 {P:Prop} (h:P:=by
 have H7:=hd_ h7c
 clear h7c
 have e0:=a2_ (j:=0) HC.out.blk
 have e1:=a2_ (j:=0) HX.out
 simp at e0 e1
 go_wp2_with fail
 go_region_held3 (fun w'=>w'.cell? ⟨gs,0,none⟩=some (.pointer (some ⟨gp,0,none⟩))/\w'.cell? ⟨w.heap.size,0,none⟩=some (.int .i64 (i:Nat)))
  (first|exact ⟨e0,e1⟩|exact ⟨e0',e1'⟩)
  ((go_at_call 52;refine (HCH0.out _ (HPW.out _ aA_).1 (HPW.out _ aA_).2).mono ?_;rintro e w4 ⟨rfl,hB4⟩;have e0':=(hB4.cell (p:=⟨gs,0,none⟩) (a3_ HC.out.blk)).trans e0;have e1':=(hB4.cell (p:=⟨w.heap.size,0,none⟩) (a3_ HX.out)).trans e1))
 have hB34:Below wr.heap.size wr w4:=by first|exact hB4|exact b7_ hB4|exact cC_ hB4
 have HC4:=hd_ (HC.out.past hB34);have GB4:=hd_ (dC_ GB.out hB34);have HX4:=hd_ (a5_ HX.out hB34);have HR4:=hd_ (a5_ HR.out hB34);have H74:=hd_ (a5_ H7.out hB34)
 have e2:=a2_ (j:=1) HX4.out
 simp at e2
 clear hB4 hB34 e0 e1 e0' e1' HC GB HX HR H7
 go_wp2_with (go_at_call 152;refine (HPUT0.out _ HC4.out.blk).mono ?_;rintro e w5 ⟨rfl,hB5⟩)
 refine g8_ (fun w6=>CS w0 gs gp bm W l w6/\w.grownBy w6 (some bm)/\w6.heap[w.heap.size]?=some (.cells #[.int .i64 (i:Nat),.int .i64 (col:Nat)] 181 (0,0))/\w6.heap[w.heap.size+1]?=some (.cells #[.int .i64 0,.int .i64 0,.int .i64 0] 178 (0,0))/\w6.heap[b7]?=some (.cells #[.int .i64 0,.int .i64 0,.int .i64 (-1)] 178 (0,0))/\w6.heap[w5.heap.size]?=some (.cells #[.int .i64 (ea0:Nat),.int .i64 (eb0:Nat)] 47 (0,0)))
  ⟨(HC4.out.past hB5).past ((Below.refl _ _).alloc (Nat.le_refl _) _),lP_ (dC_ GB4.out hB5) _,(Below.heap_alloc _ _ _ (a3_ (a5_ HX4.out hB5))).trans (a5_ HX4.out hB5),(Below.heap_alloc _ _ _ (a3_ (a5_ HR4.out hB5))).trans (a5_ HR4.out hB5),(Below.heap_alloc _ _ _ (a3_ (a5_ H74.out hB5))).trans (a5_ H74.out hB5),aN_ rfl⟩ ?_
 rintro w6 ⟨hc6,hg6,hX6,hR6,h76,h116⟩
 obtain ⟨b11,hb11⟩:∃ b11,w5.heap.size=b11:=⟨_,rfl⟩
 rw [hb11] at h116 ⊢
 have hb11':b7<b11:=by rw [← hb11];exact a3_ (a5_ H74.out hB5)
 clear hb11 hB5 e2 HC4 GB4 HX4 HR4 H74
 have f0:=a2_ (j:=0) h116
 have f1:=a2_ (j:=1) h116
 simp at f0 f1
 have hfld:=gE_
 have HC6:Hid (∀ W',Below w6.heap.size w6 W'->CS w0 gs gp bm W l W'):=hd_ (fun W' hb=>hc6.past hb)
 have HG6:=hd_ hg6
 clear hc6 hg6
 go_region_with (first
   | (go_at_call 97;refine (HCP0.out _ (HC6.out _ aA_)).mono ?_;rintro e w7 ⟨rfl,hcs7,hg7⟩;have HC7:=hd_ hcs7;have HG7:=hd_ hg7;have h117:=cA_ hg7 h116 (by omega);have f0':=(show w7.cell? ⟨b11,0,none⟩=some (.int .i64 (ea0:Nat)) from a2_ (j:=0) h117);have f1':=(show w7.cell? ⟨b11,1,none⟩=some (.int .i64 (eb0:Nat)) from a2_ (j:=1) h117);clear hcs7 hg7)
   | (go_at_call 153;refine (HPL0.out _).mono ?_;rintro e w8 ⟨rfl,hB8⟩;have HB8:=hd_ hB8;have f0'':=(hB8.cell (p:=⟨b11,0,none⟩) (a3_ h117)).trans f0';have f1'':=(hB8.cell (p:=⟨b11,1,none⟩) (a3_ h117)).trans f1';have k0:=(hB8.frozen (p:=⟨b11,0,none⟩) (a3_ h117)).trans (b3_ (j:=0) h117);have k1:=(hB8.frozen (p:=⟨b11,1,none⟩) (a3_ h117)).trans (b3_ (j:=1) h117);clear hB8))
 all_goals
  have hB78:Below w7.heap.size w7 w8:=by first|exact HB8.out|exact b7_ HB8.out|exact cC_ HB8.out
  have gb7:w.grownBy w7 (some bm):=a0_ (by first|exact HG6.out|exact iE_ HG6.out|exact lQ_ HG6.out _) HG7.out
  have HG8:=hd_ (dC_ gb7 hB78)
  have HC8:=hd_ (HC7.out.past hB78)
  have hX8:=a5_ (cA_ HG7.out hX6 (by omega)) hB78
  have hR8:=a5_ (cA_ HG7.out hR6 (by omega)) hB78
  have h78:=a5_ (cA_ HG7.out h76 (by omega)) hB78
  have h118:=a5_ h117 hB78
  clear f0 f1 f0' f1' f0'' f1'' k0 k1 hfld h117 HB8 HG7 HC7 gb7 hB78 hX6 hR6 h76 h116 HC6 HG6
  refine f9_ (fun w9=>CS w0 gs gp bm W l w9/\w.grownBy w9 (some bm)/\w9.heap[w.heap.size]?=some (.cells #[.int .i64 (i:Nat),.int .i64 (col:Nat)] 181 (0,0))/\w9.heap[w.heap.size+1]?=some (.cells #[.int .i64 0,.int .i64 0,.int .i64 0] 178 (0,0))/\w9.heap[b7]?=some (.cells #[.int .i64 0,.int .i64 0,.int .i64 (-1)] 178 (0,0))/\w9.heap[b11]?=some (.cells #[.int .i64 (pa0:Nat),.int .i64 (pb0:Nat)] 47 (0,0)))
   ⟨HC8.out.set2_ (by omega) (by omega) (by have:=HCS.out.bel.size;omega) _ _,o5_ HG8.out (by omega) _ _,eH_ hX8 (by omega) _ _,eH_ hR8 (by omega) _ _,eH_ h78 (by omega) _ _,i8_ h118⟩ ?_
  rintro w9 ⟨hC9,gb9,hX9,hR9,h79,h119⟩
  have HC9:=hd_ hC9;have GB9:=hd_ gb9;have HX9:=hd_ hX9;have HR9:=hd_ hR9;have H79:=hd_ h79;have H119:=hd_ h119
  clear hC9 gb9 hX9 hR9 h79 h119 hX8 hR8 h78 h118 HC8 HG8
  have m0:=a2_ (j:=0) H79.out
  have m1:=a2_ (j:=1) H79.out
  have m2:=a2_ (j:=2) H79.out
  have m3:=a2_ (j:=0) H119.out
  have m4:=a2_ (j:=1) H119.out
  have m5:=b3_ (j:=0) H79.out
  have m6:=b3_ (j:=1) H79.out
  have m7:=b3_ (j:=2) H79.out
  simp at m0 m1 m2 m3 m4
  go_wp2_with fail
  go_roundw
  case measure=>simp [intOf]
  case rel=>exact ⟨HC9.out.set3_ (by omega) (by omega) (by have:=HCS.out.bel.size;omega) _ _ _,jN_ GB9.out (by omega) _ _ _,gO_ HX9.out (by omega) _ _ _,gO_ HR9.out (by omega) _ _ _,.inr (.inl ⟨by first|rfl|go_num,hI_ H79.out⟩)⟩):P:=h
theorem aa0_ {l:List Nd} (h400:l.length<=400) {gp:Nat} {A:Option Addr} {c:Nat} (w0:World) (hpl:b5_ w0 gp A c l) (hnl:Nds w0 w0.heap.size A l) {gs bm W:Nat} {i col:Nat} {w:World} (hcs:CS w0 gs gp bm W l w) (hcol:col<=2000000)
  {f:Value->Option Value} (hmf:e4_ Tryz.prog 181 f bm w) (hv:f (c2_ i col)=none) (hlt:i<l.length) {t0 t1:ByteArray} {i0 i1 ea0 eb0 col0 da0 db0 pa0 pb0 ea1 eb1 col1 da1 db1 pa1 pb1:Nat} {ch0 ch1:Int}
  (hpc:∀ w,b5_ w gp A c l->Nds w w.heap.size A l->Calls Tryz.prog 51 #[.pointer (some ⟨gp,0,none⟩),.int .i64 i] w (Ret w (.tuple #[.string t1,.int .i64 (i:Nat),.bool true])))
  (hch0:∀ w,b5_ w gp A c l->Nds w w.heap.size A l->Calls Tryz.prog 52 #[.pointer (some ⟨gp,0,none⟩),.int .i64 i,.int .i64 0] w (Ret w (.tuple #[.string t0,.int .i64 (i0:Nat),.bool true])))
  (hch1:∀ w,b5_ w gp A c l->Nds w w.heap.size A l->Calls Tryz.prog 52 #[.pointer (some ⟨gp,0,none⟩),.int .i64 i,.int .i64 1] w (Ret w (.tuple #[.string t1,.int .i64 (i1:Nat),.bool true])))
  (hput0:∀ W':World,W'.heap[gs]?=some (.cells #[.pointer (some ⟨gp,0,none⟩),.int .i64 (W:Nat),.map (some bm)] 176 (0,0))->Calls Tryz.prog 152 #[.pointer (some ⟨gs,0,none⟩),.string t0,.int .i64 (col:Nat)] W' (Ret W' (.tuple #[.agg #[.int .i64 (ea0:Nat),.int .i64 (eb0:Nat)],.int .i64 (col0:Nat)])))
  (hcp0:∀ W':World,CS w0 gs gp bm W l W'->Calls Tryz.prog 97 #[.pointer (some ⟨gs,0,none⟩),.agg #[.int .i64 (i0:Nat),.int .i64 (col0:Nat)]] W' (eU_ w0 gs gp bm W l (.agg #[.int .i64 (da0:Nat),.int .i64 (db0:Nat),.int .i64 ch0]) W'))
  (hpl0:∀ W':World,Calls Tryz.prog 153 #[.agg #[.int .i64 (ea0:Nat),.int .i64 (eb0:Nat)],.agg #[.int .i64 (da0:Nat),.int .i64 (db0:Nat)]] W' (Ret W' (.agg #[.int .i64 (pa0:Nat),.int .i64 (pb0:Nat)])))
  (hput1:∀ W':World,W'.heap[gs]?=some (.cells #[.pointer (some ⟨gp,0,none⟩),.int .i64 (W:Nat),.map (some bm)] 176 (0,0))->Calls Tryz.prog 152 #[.pointer (some ⟨gs,0,none⟩),.string t1,.int .i64 (col:Nat)] W' (Ret W' (.tuple #[.agg #[.int .i64 (ea1:Nat),.int .i64 (eb1:Nat)],.int .i64 (col1:Nat)])))
  (hcp1:∀ W':World,CS w0 gs gp bm W l W'->Calls Tryz.prog 97 #[.pointer (some ⟨gs,0,none⟩),.agg #[.int .i64 (i1:Nat),.int .i64 (col1:Nat)]] W' (eU_ w0 gs gp bm W l (.agg #[.int .i64 (da1:Nat),.int .i64 (db1:Nat),.int .i64 ch1]) W'))
  (hpl1:∀ W':World,Calls Tryz.prog 153 #[.agg #[.int .i64 (ea1:Nat),.int .i64 (eb1:Nat)],.agg #[.int .i64 (da1:Nat),.int .i64 (db1:Nat)]] W' (Ret W' (.agg #[.int .i64 (pa1:Nat),.int .i64 (pb1:Nat)])))
  (hun:∀ W':World,Calls Tryz.prog 154 #[.agg #[.int .i64 (pa1:Nat),.int .i64 (pb1:Nat)],.agg #[.int .i64 (pa0:Nat),.int .i64 (pb0:Nat)]] W' (Ret W' (.bool false)))
  (hkn:∀ f':Value->Option Value,dL_ l W f'->dL_ l W (hO_ f' (.agg #[.int .i64 (i:Nat),.int .i64 (col:Nat)]) (.agg #[.int .i64 (pa0:Nat),.int .i64 (pb0:Nat),.int .i64 0]))) :
  Calls Tryz.prog 97 #[.pointer (some ⟨gs,0,none⟩),c2_ i col] w (eU_ w0 gs gp bm W l (.agg #[.int .i64 (pa0:Nat),.int .i64 (pb0:Nat),.int .i64 0]) w):=by
 obtain ⟨kl,hkl⟩:=jY_ (i:=i) (col:=col) (by omega) (by omega)
 have HPC:=hd_ hpc;have HCH0:=hd_ hch0;have HCH1:=hd_ hch1;have HPUT1:=hd_ hput1;have HCP1:=hd_ hcp1;have HPL1:=hd_ hpl1;have HKN:=hd_ hkn
 have HPUT0:=hd_ hput0;have HCP0:=hd_ hcp0;have HPL0:=hd_ hpl0
 clear hput0 hcp0 hpl0
 have HUN:=hd_ hun
 clear hun
 clear hpc hch0 hch1 hput1 hcp1 hpl1 hkn
 have hml:=hcs.mlt
 have hms:=hcs.ms
 have hsl:=a3_ hcs.blk
 obtain ⟨gn,gd,ge,gf',gi,cf,ci,hpa⟩:=hpl.past hcs.bel
 have z0:=hpa.c0
 have hgp:=hpa.lp
 have hne:((i:Int)==(l.length:Int))=false:=by rw [beq_eq_false_iff_ne];omega
 have y0:=a2_ (j:=0) hcs.blk
 have y2:=a2_ (j:=2) hcs.blk
 simp at y0 y2
 have hb1:∀ o1 o2,Below w.heap.size w ((w.alloc o1).alloc o2):=fun o1 o2=>((Below.refl _ _).alloc (Nat.le_refl _) _).alloc (by simp) _
 have HW:∀ (o2:Obj) W',Below (((w.alloc (.cells #[.int .i64 (i:Nat),.int .i64 (col:Nat)] 181)).alloc o2).heap.size) ((w.alloc (.cells #[.int .i64 (i:Nat),.int .i64 (col:Nat)] 181)).alloc o2) W'->fI_ gs gp bm A c l.length w.heap.size i col f W':=fun o2 W' hW'=>by
  exact uT_
 unfold fI_ at HW
 simp only [hv,Option.getD_none,Option.isSome_none] at HW
 unfold c2_
 have HBX:Hid (∀ W',Below (((w.alloc (.cells #[.int .i64 (i:Nat),.int .i64 (col:Nat)] 181)).alloc (.cells #[.int .i64 0,.int .i64 0,.int .i64 0] 178)).heap.size) ((w.alloc (.cells #[.int .i64 (i:Nat),.int .i64 (col:Nat)] 181)).alloc (.cells #[.int .i64 0,.int .i64 0,.int .i64 0] 178)) W'->W'.heap[w.heap.size]?=some (.cells #[.int .i64 (i:Nat),.int .i64 (col:Nat)] 181 (0,0))/\W'.heap[w.heap.size+1]?=some (.cells #[.int .i64 0,.int .i64 0,.int .i64 0] 178 (0,0))) :=
  hd_ (fun W' hb=>⟨a5_ ((Below.heap_alloc _ _ _ (by simp)).trans (aN_ rfl)) hb,a5_ (aN_ (by simp)) hb⟩)
 have HGS:Hid (∀ W',Below w.heap.size w W'->W'.heap[gs]?=some (.cells #[.pointer (some ⟨gp,0,none⟩),.int .i64 (W:Nat),.map (some bm)] 176 (0,0))):=hd_ (fun W' hb=>a5_ hcs.blk hb)
 have HWW:=hd_ HW
 have HCS:=hd_ hcs;have HKL:=hd_ hkl
 have HPN:Hid (∀ W',Below w0.heap.size w0 W'->b5_ W' gp A c l/\Nds W' W'.heap.size A l):=hd_ (fun W' hb=>⟨hpl.past hb,hnl.past hb⟩)
 have HPN1:Hid (∀ W',Below w.heap.size w W'->b5_ W' gp A c l/\Nds W' W'.heap.size A l):=hd_ (fun W' hb=>HPN.out W' (hcs.bel.trans (hb.mono hcs.bel.size)))
 clear HW hpa hkl hcs hmf hv hpl y0 y2 z0 hnl
 go_enter Tryz.func97,Tryz.ntmps97
 go_wp2
 obtain ⟨q0,q2,z0,x0,x1,hl⟩:=HWW.out (.cells #[.int .i64 0,.int .i64 0,.int .i64 0] 178) _ (Below.refl _ _)
 clear hl
 go_quiet (fail)
 go_upto_region 3 with fail
 have hlk:∀ n:Nat,(Instr.lookup 174 (.map (some bm)) (.agg #[.int .i64 (i:Nat),.int .i64 (col:Nat)]) true).run Tryz.prog (((w.alloc (.cells #[.int .i64 (i:Nat),.int .i64 (col:Nat)] 181)).alloc (.cells #[.int .i64 0,.int .i64 0,.int .i64 0] 178)).drewN n)=.ok (.tuple #[.agg #[.int .i64 0,.int .i64 0,.int .i64 0],.bool false]) (((w.alloc (.cells #[.int .i64 (i:Nat),.int .i64 (col:Nat)] 181)).alloc (.cells #[.int .i64 0,.int .i64 0,.int .i64 0] 178)).drewN n) :=
  fun n=>(HWW.out _ _ (below_drewN (Below.refl _ _) n)).2.2.2.2.2
 have hlk2:∀ n:Nat,(Instr.lookup 174 (.map (some bm)) (.agg #[.int .i64 (i:Nat),.int .i64 (col:Nat)]) true).run Tryz.prog ((((w.alloc (.cells #[.int .i64 (i:Nat),.int .i64 (col:Nat)] 181)).alloc (.cells #[.int .i64 0,.int .i64 0,.int .i64 0] 178)).drewN n).alloc (.cells #[.int .i64 0,.int .i64 0,.int .i64 0] 178))=.ok (.tuple #[.agg #[.int .i64 0,.int .i64 0,.int .i64 0],.bool false]) ((((w.alloc (.cells #[.int .i64 (i:Nat),.int .i64 (col:Nat)] 181)).alloc (.cells #[.int .i64 0,.int .i64 0,.int .i64 0] 178)).drewN n).alloc (.cells #[.int .i64 0,.int .i64 0,.int .i64 0] 178)) :=
  fun n=>(HWW.out (.cells #[.int .i64 0,.int .i64 0,.int .i64 0] 178) ((((w.alloc (.cells #[.int .i64 (i:Nat),.int .i64 (col:Nat)] 181)).alloc (.cells #[.int .i64 0,.int .i64 0,.int .i64 0] 178)).drewN n).alloc (.cells #[.int .i64 0,.int .i64 0,.int .i64 0] 178)) aA_).2.2.2.2.2
 go_cut [6] from 31 to 39 (fun s6 wx=>s6=.bool false/\Below w.heap.size w wx/\wx.heap[w.heap.size]?=some (.cells #[.int .i64 (i:Nat),.int .i64 (col:Nat)] 181 (0,0))/\wx.heap[w.heap.size+1]?=some (.cells #[.int .i64 0,.int .i64 0,.int .i64 0] 178 (0,0)))
 case first =>
  exact yX_
 case rest =>
  obtain ⟨rfl,hBx,hX,hR⟩:=hcut
  clear hlk hlk2 x0 x1 z0 q0 q2 HBX HWW
  go_wp2_with fail
  refine g8_ (fun w3=>Below w.heap.size w w3/\w3.heap[w.heap.size]?=some (.cells #[.int .i64 (i:Nat),.int .i64 (col:Nat)] 181 (0,0))/\w3.heap[w.heap.size+1]?=some (.cells #[.int .i64 0,.int .i64 0,.int .i64 0] 178 (0,0))/\w3.heap[wc.heap.size]?=some (.cells #[.int .i64 0,.int .i64 0,.int .i64 (-1)] 178 (0,0)))
   ⟨hBx.alloc hBx.size _,(Below.heap_alloc _ _ _ (a3_ hX)).trans hX,(Below.heap_alloc _ _ _ (a3_ hR)).trans hR,aN_ rfl⟩ ?_
  rintro w3 ⟨hB3,hX3,hR3,h73⟩
  obtain ⟨b7,hb7⟩:∃ b7,wc.heap.size=b7:=⟨_,rfl⟩
  rw [hb7] at h73 ⊢
  have hb7':w.heap.size+2<=b7:=by rw [← hb7];exact a3_ hR
  clear hb7 hX hR hBx
  have e0:=a2_ (j:=0) (HGS.out w3 hB3)
  have e1:=a2_ (j:=0) hX3
  simp at e0 e1
  go_region_held3 (fun w'=>w'.cell? ⟨gs,0,none⟩=some (.pointer (some ⟨gp,0,none⟩))/\w'.cell? ⟨w.heap.size,0,none⟩=some (.int .i64 (i:Nat)))
   (first|exact ⟨e0,e1⟩|exact ⟨e0',e1'⟩)
   ((go_at_call 51;refine (HPC.out _ (HPN1.out _ aA_).1 (HPN1.out _ aA_).2).mono ?_;rintro e w4 ⟨rfl,hB4⟩;have e0':=(hB4.cell (p:=⟨gs,0,none⟩) (a3_ (HGS.out w3 hB3))).trans e0;have e1':=(hB4.cell (p:=⟨w.heap.size,0,none⟩) (a3_ hX3)).trans e1))
  have hB34:Below w3.heap.size w3 w4:=by first|exact hB4|exact b7_ hB4|exact cC_ hB4
  have HC4:=hd_ (HCS.out.past (hB3.trans (hB34.mono hB3.size)))
  have GB4:=hd_ (gG_ (hB3.trans (hB34.mono hB3.size)) bm)
  have HX4:=hd_ (a5_ hX3 hB34)
  have HR4:=hd_ (a5_ hR3 hB34)
  have H74:=hd_ (a5_ h73 hB34)
  clear hB4 hB34 hB3 hX3 hR3 h73 e0 e1 e0' e1'
  go_wp2_with fail
  go_loopw [13] (fun s13 wr=>CS w0 gs gp bm W l wr/\w.grownBy wr (some bm)/\wr.heap[w.heap.size]?=some (.cells #[.int .i64 (i:Nat),.int .i64 (col:Nat)] 181 (0,0))/\wr.heap[w.heap.size+1]?=some (.cells #[.int .i64 0,.int .i64 0,.int .i64 0] 178 (0,0))/\((s13=.int .i64 0/\wr.heap[b7]?=some (.cells #[.int .i64 0,.int .i64 0,.int .i64 (-1)] 178 (0,0)))∨(s13=.int .i64 1/\wr.heap[b7]?=some (.cells #[.int .i64 (pa0:Nat),.int .i64 (pb0:Nat),.int .i64 0] 178 (0,0)))∨(s13=.int .i64 2/\wr.heap[b7]?=some (.cells #[.int .i64 (pa0:Nat),.int .i64 (pb0:Nat),.int .i64 0] 178 (0,0))))) (fun s13 _=>2-(intOf s13).toNat)
  case atStart=>exact ⟨HC4.out,GB4.out,HX4.out,HR4.out,.inl ⟨rfl,H74.out⟩⟩
  case round =>
   obtain ⟨hcr,hgr,hxr,hrr,h7r⟩:=hrel
   have HC:=hd_ hcr;have GB:=hd_ hgr;have HX:=hd_ hxr;have HR:=hd_ hrr
   have HPW:Hid (∀ W',Below wr.heap.size wr W'->b5_ W' gp A c l/\Nds W' W'.heap.size A l):=hd_ (fun W' hb=>HPN.out W' (hcr.bel.trans (hb.mono hcr.bel.size)))
   clear hcr hgr hxr hrr HC4 GB4 HX4 HR4 H74
   rcases h7r with ⟨rfl,h7c⟩|⟨rfl,h7c⟩|⟨rfl,h7c⟩
   ·exact lq24
   ·have H7:=hd_ h7c
    clear h7c
    have e0:=a2_ (j:=0) HC.out.blk
    have e1:=a2_ (j:=0) HX.out
    simp at e0 e1
    go_wp2_with fail
    go_region_held3 (fun w'=>w'.cell? ⟨gs,0,none⟩=some (.pointer (some ⟨gp,0,none⟩))/\w'.cell? ⟨w.heap.size,0,none⟩=some (.int .i64 (i:Nat)))
     (first|exact ⟨e0,e1⟩|exact ⟨e0',e1'⟩)
     ((go_at_call 52;refine (HCH1.out _ (HPW.out _ aA_).1 (HPW.out _ aA_).2).mono ?_;rintro e w4 ⟨rfl,hB4⟩;have e0':=(hB4.cell (p:=⟨gs,0,none⟩) (a3_ HC.out.blk)).trans e0;have e1':=(hB4.cell (p:=⟨w.heap.size,0,none⟩) (a3_ HX.out)).trans e1))
    have hB34:Below wr.heap.size wr w4:=by first|exact hB4|exact b7_ hB4|exact cC_ hB4
    have HC4:=hd_ (HC.out.past hB34);have GB4:=hd_ (dC_ GB.out hB34);have HX4:=hd_ (a5_ HX.out hB34);have HR4:=hd_ (a5_ HR.out hB34);have H74:=hd_ (a5_ H7.out hB34)
    have e2:=a2_ (j:=1) HX4.out
    simp at e2
    clear hB4 hB34 e0 e1 e0' e1' HC GB HX HR H7
    go_wp2_with (go_at_call 152;refine (HPUT1.out _ HC4.out.blk).mono ?_;rintro e w5 ⟨rfl,hB5⟩)
    refine g8_ (fun w6=>CS w0 gs gp bm W l w6/\w.grownBy w6 (some bm)/\w6.heap[w.heap.size]?=some (.cells #[.int .i64 (i:Nat),.int .i64 (col:Nat)] 181 (0,0))/\w6.heap[w.heap.size+1]?=some (.cells #[.int .i64 0,.int .i64 0,.int .i64 0] 178 (0,0))/\w6.heap[b7]?=some (.cells #[.int .i64 (pa0:Nat),.int .i64 (pb0:Nat),.int .i64 0] 178 (0,0))/\w6.heap[w5.heap.size]?=some (.cells #[.int .i64 (ea1:Nat),.int .i64 (eb1:Nat)] 47 (0,0)))
     ⟨(HC4.out.past hB5).past ((Below.refl _ _).alloc (Nat.le_refl _) _),lP_ (dC_ GB4.out hB5) _,(Below.heap_alloc _ _ _ (a3_ (a5_ HX4.out hB5))).trans (a5_ HX4.out hB5),(Below.heap_alloc _ _ _ (a3_ (a5_ HR4.out hB5))).trans (a5_ HR4.out hB5),(Below.heap_alloc _ _ _ (a3_ (a5_ H74.out hB5))).trans (a5_ H74.out hB5),aN_ rfl⟩ ?_
    rintro w6 ⟨hc6,hg6,hX6,hR6,h76,h116⟩
    obtain ⟨b11,hb11⟩:∃ b11,w5.heap.size=b11:=⟨_,rfl⟩
    rw [hb11] at h116 ⊢
    have hb11':b7<b11:=by rw [← hb11];exact a3_ (a5_ H74.out hB5)
    clear hb11 hB5 e2 HC4 GB4 HX4 HR4 H74
    have f0:=a2_ (j:=0) h116
    have f1:=a2_ (j:=1) h116
    simp at f0 f1
    have hfld:=gE_
    have HC6:Hid (∀ W',Below w6.heap.size w6 W'->CS w0 gs gp bm W l W'):=hd_ (fun W' hb=>hc6.past hb)
    have HG6:=hd_ hg6
    clear hc6 hg6
    go_region_with (first
      | (go_at_call 97;refine (HCP1.out _ (HC6.out _ aA_)).mono ?_;rintro e w7 ⟨rfl,hcs7,hg7⟩;have HC7:=hd_ hcs7;have HG7:=hd_ hg7;have h117:=cA_ hg7 h116 (by omega);have f0':=(show w7.cell? ⟨b11,0,none⟩=some (.int .i64 (ea1:Nat)) from a2_ (j:=0) h117);have f1':=(show w7.cell? ⟨b11,1,none⟩=some (.int .i64 (eb1:Nat)) from a2_ (j:=1) h117);clear hcs7 hg7)
      | (go_at_call 153;refine (HPL1.out _).mono ?_;rintro e w8 ⟨rfl,hB8⟩;have HB8:=hd_ hB8;have f0'':=(hB8.cell (p:=⟨b11,0,none⟩) (a3_ h117)).trans f0';have f1'':=(hB8.cell (p:=⟨b11,1,none⟩) (a3_ h117)).trans f1';have k0:=(hB8.frozen (p:=⟨b11,0,none⟩) (a3_ h117)).trans (b3_ (j:=0) h117);have k1:=(hB8.frozen (p:=⟨b11,1,none⟩) (a3_ h117)).trans (b3_ (j:=1) h117);clear hB8))
    all_goals
     have hB78:Below w7.heap.size w7 w8:=by first|exact HB8.out|exact b7_ HB8.out|exact cC_ HB8.out
     have gb7:w.grownBy w7 (some bm):=a0_ (by first|exact HG6.out|exact iE_ HG6.out|exact lQ_ HG6.out _) HG7.out
     have HG8:=hd_ (dC_ gb7 hB78)
     have HC8:=hd_ (HC7.out.past hB78)
     have hX8:=a5_ (cA_ HG7.out hX6 (by omega)) hB78
     have hR8:=a5_ (cA_ HG7.out hR6 (by omega)) hB78
     have h78:=a5_ (cA_ HG7.out h76 (by omega)) hB78
     have h118:=a5_ h117 hB78
     clear f0 f1 f0' f1' f0'' f1'' k0 k1 hfld h117 HB8 HG7 HC7 gb7 hB78 hX6 hR6 h76 h116 HC6 HG6
     refine f9_ (fun w9=>CS w0 gs gp bm W l w9/\w.grownBy w9 (some bm)/\w9.heap[w.heap.size]?=some (.cells #[.int .i64 (i:Nat),.int .i64 (col:Nat)] 181 (0,0))/\w9.heap[w.heap.size+1]?=some (.cells #[.int .i64 0,.int .i64 0,.int .i64 0] 178 (0,0))/\w9.heap[b7]?=some (.cells #[.int .i64 (pa0:Nat),.int .i64 (pb0:Nat),.int .i64 0] 178 (0,0))/\w9.heap[b11]?=some (.cells #[.int .i64 (pa1:Nat),.int .i64 (pb1:Nat)] 47 (0,0)))
      ⟨HC8.out.set2_ (by omega) (by omega) (by have:=HCS.out.bel.size;omega) _ _,o5_ HG8.out (by omega) _ _,eH_ hX8 (by omega) _ _,eH_ hR8 (by omega) _ _,eH_ h78 (by omega) _ _,i8_ h118⟩ ?_
     rintro w9 ⟨hC9,gb9,hX9,hR9,h79,h119⟩
     have HC9:=hd_ hC9;have GB9:=hd_ gb9;have HX9:=hd_ hX9;have HR9:=hd_ hR9;have H79:=hd_ h79;have H119:=hd_ h119
     clear hC9 gb9 hX9 hR9 h79 h119 hX8 hR8 h78 h118 HC8 HG8
     have m0:=a2_ (j:=0) H79.out
     have m1:=a2_ (j:=1) H79.out
     have m2:=a2_ (j:=2) H79.out
     have m3:=a2_ (j:=0) H119.out
     have m4:=a2_ (j:=1) H119.out
     have m5:=b3_ (j:=0) H79.out
     have m6:=b3_ (j:=1) H79.out
     have m7:=b3_ (j:=2) H79.out
     simp at m0 m1 m2 m3 m4
     go_wp2_with (go_at_call 154;refine (HUN.out _).mono ?_;rintro e w10 ⟨rfl,hB10⟩;have n3:=(hB10.cell (p:=⟨b11,0,none⟩) (a3_ H119.out)).trans m3;have n4:=(hB10.cell (p:=⟨b11,1,none⟩) (a3_ H119.out)).trans m4;have n0:=(hB10.cell (p:=⟨b7,0,none⟩) (a3_ H79.out)).trans m0;have n1:=(hB10.cell (p:=⟨b7,1,none⟩) (a3_ H79.out)).trans m1;have n2:=(hB10.cell (p:=⟨b7,2,none⟩) (a3_ H79.out)).trans m2;have n5:=(hB10.frozen (p:=⟨b7,0,none⟩) (a3_ H79.out)).trans m5;have n6:=(hB10.frozen (p:=⟨b7,1,none⟩) (a3_ H79.out)).trans m6;have n7:=(hB10.frozen (p:=⟨b7,2,none⟩) (a3_ H79.out)).trans m7)
     go_roundw
     case measure=>simp [intOf]
     case rel=>exact ⟨HC9.out.past hB10,dC_ GB9.out hB10,a5_ HX9.out hB10,a5_ HR9.out hB10,.inr (.inr ⟨by first|rfl|go_num,a5_ H79.out hB10⟩)⟩
   ·have H7:=hd_ h7c
    clear h7c
    go_wp2_with fail
    obtain ⟨f',hm',hk'⟩:=HC.out.map
    obtain ⟨o,ho⟩:=hm'.store oB_ Tryz.underlying174 HKL.out (.agg #[.int .i64 (pa0:Nat),.int .i64 (pb0:Nat),.int .i64 0])
    unfold c2_ at ho
    have HO:=hd_ ho
    have hk2:=HKN.out f' hk'
    have HK2:=hd_ hk2
    have hup:(Instr.mapUpdate 174 (.map (some bm)) (.agg #[.int .i64 (i:Nat),.int .i64 (col:Nat)]) (.agg #[.int .i64 (pa0:Nat),.int .i64 (pb0:Nat),.int .i64 0])).run Tryz.prog wr.drew=.ok () (setBlock wr.drew bm o):=(ho wr.drew rfl).1
    have v0:wr.cell? ⟨gs,2,none⟩=some (.map (some bm)):=a2_ (j:=2) HC.out.blk
    have v1:wr.cell? ⟨w.heap.size,0,none⟩=some (.int .i64 (i:Nat)):=a2_ (j:=0) HX.out
    have v2:wr.cell? ⟨w.heap.size,1,none⟩=some (.int .i64 (col:Nat)):=a2_ (j:=1) HX.out
    have v3:wr.cell? ⟨b7,0,none⟩=some (.int .i64 (pa0:Nat)):=a2_ (j:=0) H7.out
    have v4:wr.cell? ⟨b7,1,none⟩=some (.int .i64 (pb0:Nat)):=a2_ (j:=1) H7.out
    have v5:wr.cell? ⟨b7,2,none⟩=some (.int .i64 0):=a2_ (j:=2) H7.out
    have far:∀ (g:Nat) (x:Obj),g≠bm->wr.heap[g]?=some x->(setBlock wr.drew bm o).heap[g]?=some x:=fun g x hne hg=>cA_ (HO.out wr.drew rfl).2.2 hg hne
    have FAR:=hd_ far
    have u0:(setBlock wr.drew bm o).cell? ⟨gs,2,none⟩=some (.map (some bm)):=a2_ (j:=2) (far gs _ hms HC.out.blk)
    have u1:(setBlock wr.drew bm o).cell? ⟨w.heap.size,0,none⟩=some (.int .i64 (i:Nat)):=a2_ (j:=0) (far _ _ (by omega) HX.out)
    have u2:(setBlock wr.drew bm o).cell? ⟨w.heap.size,1,none⟩=some (.int .i64 (col:Nat)):=a2_ (j:=1) (far _ _ (by omega) HX.out)
    have u3:(setBlock wr.drew bm o).cell? ⟨b7,0,none⟩=some (.int .i64 (pa0:Nat)):=a2_ (j:=0) (far _ _ (by omega) H7.out)
    have u4:(setBlock wr.drew bm o).cell? ⟨b7,1,none⟩=some (.int .i64 (pb0:Nat)):=a2_ (j:=1) (far _ _ (by omega) H7.out)
    have u5':(setBlock wr.drew bm o).cell? ⟨b7,2,none⟩=some (.int .i64 0):=a2_ (j:=2) (far _ _ (by omega) H7.out)
    clear ho hk2 hk' hm' far
    go_region_held3 (fun w'=>w'.cell? ⟨gs,2,none⟩=some (.map (some bm))/\w'.cell? ⟨w.heap.size,0,none⟩=some (.int .i64 (i:Nat))/\w'.cell? ⟨w.heap.size,1,none⟩=some (.int .i64 (col:Nat))/\w'.cell? ⟨b7,0,none⟩=some (.int .i64 (pa0:Nat))/\w'.cell? ⟨b7,1,none⟩=some (.int .i64 (pb0:Nat))/\w'.cell? ⟨b7,2,none⟩=some (.int .i64 0))
     (first|exact ⟨v0,v1,v2,v3,v4,v5⟩|exact ⟨u0,u1,u2,u3,u4,u5'⟩) (fail)
    clear hup u0 u1 u2 u3 u4 u5' v0 v1 v2 v3 v4 v5
    refine f9_ (fun wy=>CS w0 gs gp bm W l wy/\w.grownBy wy (some bm)/\wy.heap[w.heap.size+1]?=some (.cells #[.int .i64 0,.int .i64 0,.int .i64 0] 178 (0,0))/\wy.heap[b7]?=some (.cells #[.int .i64 (pa0:Nat),.int .i64 (pb0:Nat),.int .i64 0] 178 (0,0))) ⟨HC.out.store HO.out HK2.out 1,a0_ (iE_ GB.out) (HO.out wr.drew rfl).2.2,FAR.out _ _ (by omega) HR.out,FAR.out _ _ (by omega) H7.out⟩ ?_
    rintro wy ⟨hCy,gby,hRy,h7y⟩
    have a0:=a2_ (j:=0) h7y
    have a1:=a2_ (j:=1) h7y
    have a2:=a2_ (j:=2) h7y
    have a3:=a2_ (j:=0) hRy
    have a4:=a2_ (j:=1) hRy
    have a5:=a2_ (j:=2) hRy
    have a6:=b3_ (j:=0) hRy
    have a7:=b3_ (j:=1) hRy
    have a8:=b3_ (j:=2) hRy
    simp at a0 a1 a2 a3 a4 a5
    have HCY:=hd_ hCy;have GBY:=hd_ gby;have HRY:=hd_ hRy
    clear hCy gby hRy h7y HX HR H7
    go_wp2
    have b0:=hI_ (p:=.int .i64 (pa0:Nat)) (q:=.int .i64 (pb0:Nat)) (r:=.int .i64 0) HRY.out
    exact lq32
theorem xY_ {l:List Nd} (h400:l.length<=400) {gp:Nat} {A:Option Addr} {c:Nat} (w0:World) (hpl:b5_ w0 gp A c l) (hnl:Nds w0 w0.heap.size A l) {gs bm W:Nat} {i col:Nat} {w:World} (hcs:CS w0 gs gp bm W l w) (hcol:col<=2000000)
  {f:Value->Option Value} (hmf:e4_ Tryz.prog 181 f bm w) (hv:f (c2_ i col)=none) (hlt:i<l.length) {t0 t1:ByteArray} {i0 i1 ea0 eb0 col0 da0 db0 pa0 pb0 ea1 eb1 col1 da1 db1 pa1 pb1:Nat} {ch0 ch1:Int}
  (hpc:∀ w,b5_ w gp A c l->Nds w w.heap.size A l->Calls Tryz.prog 51 #[.pointer (some ⟨gp,0,none⟩),.int .i64 i] w (Ret w (.tuple #[.string t1,.int .i64 (i:Nat),.bool true])))
  (hch0:∀ w,b5_ w gp A c l->Nds w w.heap.size A l->Calls Tryz.prog 52 #[.pointer (some ⟨gp,0,none⟩),.int .i64 i,.int .i64 0] w (Ret w (.tuple #[.string t0,.int .i64 (i0:Nat),.bool true])))
  (hch1:∀ w,b5_ w gp A c l->Nds w w.heap.size A l->Calls Tryz.prog 52 #[.pointer (some ⟨gp,0,none⟩),.int .i64 i,.int .i64 1] w (Ret w (.tuple #[.string t1,.int .i64 (i1:Nat),.bool true])))
  (hput0:∀ W':World,W'.heap[gs]?=some (.cells #[.pointer (some ⟨gp,0,none⟩),.int .i64 (W:Nat),.map (some bm)] 176 (0,0))->Calls Tryz.prog 152 #[.pointer (some ⟨gs,0,none⟩),.string t0,.int .i64 (col:Nat)] W' (Ret W' (.tuple #[.agg #[.int .i64 (ea0:Nat),.int .i64 (eb0:Nat)],.int .i64 (col0:Nat)])))
  (hcp0:∀ W':World,CS w0 gs gp bm W l W'->Calls Tryz.prog 97 #[.pointer (some ⟨gs,0,none⟩),.agg #[.int .i64 (i0:Nat),.int .i64 (col0:Nat)]] W' (eU_ w0 gs gp bm W l (.agg #[.int .i64 (da0:Nat),.int .i64 (db0:Nat),.int .i64 ch0]) W'))
  (hpl0:∀ W':World,Calls Tryz.prog 153 #[.agg #[.int .i64 (ea0:Nat),.int .i64 (eb0:Nat)],.agg #[.int .i64 (da0:Nat),.int .i64 (db0:Nat)]] W' (Ret W' (.agg #[.int .i64 (pa0:Nat),.int .i64 (pb0:Nat)])))
  (hput1:∀ W':World,W'.heap[gs]?=some (.cells #[.pointer (some ⟨gp,0,none⟩),.int .i64 (W:Nat),.map (some bm)] 176 (0,0))->Calls Tryz.prog 152 #[.pointer (some ⟨gs,0,none⟩),.string t1,.int .i64 (col:Nat)] W' (Ret W' (.tuple #[.agg #[.int .i64 (ea1:Nat),.int .i64 (eb1:Nat)],.int .i64 (col1:Nat)])))
  (hcp1:∀ W':World,CS w0 gs gp bm W l W'->Calls Tryz.prog 97 #[.pointer (some ⟨gs,0,none⟩),.agg #[.int .i64 (i1:Nat),.int .i64 (col1:Nat)]] W' (eU_ w0 gs gp bm W l (.agg #[.int .i64 (da1:Nat),.int .i64 (db1:Nat),.int .i64 ch1]) W'))
  (hpl1:∀ W':World,Calls Tryz.prog 153 #[.agg #[.int .i64 (ea1:Nat),.int .i64 (eb1:Nat)],.agg #[.int .i64 (da1:Nat),.int .i64 (db1:Nat)]] W' (Ret W' (.agg #[.int .i64 (pa1:Nat),.int .i64 (pb1:Nat)])))
  (hun:∀ W':World,Calls Tryz.prog 154 #[.agg #[.int .i64 (pa1:Nat),.int .i64 (pb1:Nat)],.agg #[.int .i64 (pa0:Nat),.int .i64 (pb0:Nat)]] W' (Ret W' (.bool true)))
  (hkn:∀ f':Value->Option Value,dL_ l W f'->dL_ l W (hO_ f' (.agg #[.int .i64 (i:Nat),.int .i64 (col:Nat)]) (.agg #[.int .i64 (pa1:Nat),.int .i64 (pb1:Nat),.int .i64 1]))) :
  Calls Tryz.prog 97 #[.pointer (some ⟨gs,0,none⟩),c2_ i col] w (eU_ w0 gs gp bm W l (.agg #[.int .i64 (pa1:Nat),.int .i64 (pb1:Nat),.int .i64 1]) w):=by
 obtain ⟨kl,hkl⟩:=jY_ (i:=i) (col:=col) (by omega) (by omega)
 have HPC:=hd_ hpc;have HCH0:=hd_ hch0;have HCH1:=hd_ hch1;have HPUT1:=hd_ hput1;have HCP1:=hd_ hcp1;have HPL1:=hd_ hpl1;have HKN:=hd_ hkn
 have HPUT0:=hd_ hput0;have HCP0:=hd_ hcp0;have HPL0:=hd_ hpl0
 clear hput0 hcp0 hpl0
 have HUN:=hd_ hun
 clear hun
 clear hpc hch0 hch1 hput1 hcp1 hpl1 hkn
 have hml:=hcs.mlt
 have hms:=hcs.ms
 have hsl:=a3_ hcs.blk
 obtain ⟨gn,gd,ge,gf',gi,cf,ci,hpa⟩:=hpl.past hcs.bel
 have z0:=hpa.c0
 have hgp:=hpa.lp
 have hne:((i:Int)==(l.length:Int))=false:=by rw [beq_eq_false_iff_ne];omega
 have y0:=a2_ (j:=0) hcs.blk
 have y2:=a2_ (j:=2) hcs.blk
 simp at y0 y2
 have hb1:∀ o1 o2,Below w.heap.size w ((w.alloc o1).alloc o2):=fun o1 o2=>((Below.refl _ _).alloc (Nat.le_refl _) _).alloc (by simp) _
 have HW:∀ (o2:Obj) W',Below (((w.alloc (.cells #[.int .i64 (i:Nat),.int .i64 (col:Nat)] 181)).alloc o2).heap.size) ((w.alloc (.cells #[.int .i64 (i:Nat),.int .i64 (col:Nat)] 181)).alloc o2) W'->fI_ gs gp bm A c l.length w.heap.size i col f W':=fun o2 W' hW'=>by
  exact uT_
 unfold fI_ at HW
 simp only [hv,Option.getD_none,Option.isSome_none] at HW
 unfold c2_
 have HBX:Hid (∀ W',Below (((w.alloc (.cells #[.int .i64 (i:Nat),.int .i64 (col:Nat)] 181)).alloc (.cells #[.int .i64 0,.int .i64 0,.int .i64 0] 178)).heap.size) ((w.alloc (.cells #[.int .i64 (i:Nat),.int .i64 (col:Nat)] 181)).alloc (.cells #[.int .i64 0,.int .i64 0,.int .i64 0] 178)) W'->W'.heap[w.heap.size]?=some (.cells #[.int .i64 (i:Nat),.int .i64 (col:Nat)] 181 (0,0))/\W'.heap[w.heap.size+1]?=some (.cells #[.int .i64 0,.int .i64 0,.int .i64 0] 178 (0,0))) :=
  hd_ (fun W' hb=>⟨a5_ ((Below.heap_alloc _ _ _ (by simp)).trans (aN_ rfl)) hb,a5_ (aN_ (by simp)) hb⟩)
 have HGS:Hid (∀ W',Below w.heap.size w W'->W'.heap[gs]?=some (.cells #[.pointer (some ⟨gp,0,none⟩),.int .i64 (W:Nat),.map (some bm)] 176 (0,0))):=hd_ (fun W' hb=>a5_ hcs.blk hb)
 have HWW:=hd_ HW
 have HCS:=hd_ hcs;have HKL:=hd_ hkl
 have HPN:Hid (∀ W',Below w0.heap.size w0 W'->b5_ W' gp A c l/\Nds W' W'.heap.size A l):=hd_ (fun W' hb=>⟨hpl.past hb,hnl.past hb⟩)
 have HPN1:Hid (∀ W',Below w.heap.size w W'->b5_ W' gp A c l/\Nds W' W'.heap.size A l):=hd_ (fun W' hb=>HPN.out W' (hcs.bel.trans (hb.mono hcs.bel.size)))
 clear HW hpa hkl hcs hmf hv hpl y0 y2 z0 hnl
 go_enter Tryz.func97,Tryz.ntmps97
 go_wp2
 obtain ⟨q0,q2,z0,x0,x1,hl⟩:=HWW.out (.cells #[.int .i64 0,.int .i64 0,.int .i64 0] 178) _ (Below.refl _ _)
 clear hl
 go_quiet (fail)
 go_upto_region 3 with fail
 have hlk:∀ n:Nat,(Instr.lookup 174 (.map (some bm)) (.agg #[.int .i64 (i:Nat),.int .i64 (col:Nat)]) true).run Tryz.prog (((w.alloc (.cells #[.int .i64 (i:Nat),.int .i64 (col:Nat)] 181)).alloc (.cells #[.int .i64 0,.int .i64 0,.int .i64 0] 178)).drewN n)=.ok (.tuple #[.agg #[.int .i64 0,.int .i64 0,.int .i64 0],.bool false]) (((w.alloc (.cells #[.int .i64 (i:Nat),.int .i64 (col:Nat)] 181)).alloc (.cells #[.int .i64 0,.int .i64 0,.int .i64 0] 178)).drewN n) :=
  fun n=>(HWW.out _ _ (below_drewN (Below.refl _ _) n)).2.2.2.2.2
 have hlk2:∀ n:Nat,(Instr.lookup 174 (.map (some bm)) (.agg #[.int .i64 (i:Nat),.int .i64 (col:Nat)]) true).run Tryz.prog ((((w.alloc (.cells #[.int .i64 (i:Nat),.int .i64 (col:Nat)] 181)).alloc (.cells #[.int .i64 0,.int .i64 0,.int .i64 0] 178)).drewN n).alloc (.cells #[.int .i64 0,.int .i64 0,.int .i64 0] 178))=.ok (.tuple #[.agg #[.int .i64 0,.int .i64 0,.int .i64 0],.bool false]) ((((w.alloc (.cells #[.int .i64 (i:Nat),.int .i64 (col:Nat)] 181)).alloc (.cells #[.int .i64 0,.int .i64 0,.int .i64 0] 178)).drewN n).alloc (.cells #[.int .i64 0,.int .i64 0,.int .i64 0] 178)) :=
  fun n=>(HWW.out (.cells #[.int .i64 0,.int .i64 0,.int .i64 0] 178) ((((w.alloc (.cells #[.int .i64 (i:Nat),.int .i64 (col:Nat)] 181)).alloc (.cells #[.int .i64 0,.int .i64 0,.int .i64 0] 178)).drewN n).alloc (.cells #[.int .i64 0,.int .i64 0,.int .i64 0] 178)) aA_).2.2.2.2.2
 go_cut [6] from 31 to 39 (fun s6 wx=>s6=.bool false/\Below w.heap.size w wx/\wx.heap[w.heap.size]?=some (.cells #[.int .i64 (i:Nat),.int .i64 (col:Nat)] 181 (0,0))/\wx.heap[w.heap.size+1]?=some (.cells #[.int .i64 0,.int .i64 0,.int .i64 0] 178 (0,0)))
 case first =>
  exact yX_
 case rest =>
  obtain ⟨rfl,hBx,hX,hR⟩:=hcut
  clear hlk hlk2 x0 x1 z0 q0 q2 HBX HWW
  go_wp2_with fail
  refine g8_ (fun w3=>Below w.heap.size w w3/\w3.heap[w.heap.size]?=some (.cells #[.int .i64 (i:Nat),.int .i64 (col:Nat)] 181 (0,0))/\w3.heap[w.heap.size+1]?=some (.cells #[.int .i64 0,.int .i64 0,.int .i64 0] 178 (0,0))/\w3.heap[wc.heap.size]?=some (.cells #[.int .i64 0,.int .i64 0,.int .i64 (-1)] 178 (0,0)))
   ⟨hBx.alloc hBx.size _,(Below.heap_alloc _ _ _ (a3_ hX)).trans hX,(Below.heap_alloc _ _ _ (a3_ hR)).trans hR,aN_ rfl⟩ ?_
  rintro w3 ⟨hB3,hX3,hR3,h73⟩
  obtain ⟨b7,hb7⟩:∃ b7,wc.heap.size=b7:=⟨_,rfl⟩
  rw [hb7] at h73 ⊢
  have hb7':w.heap.size+2<=b7:=by rw [← hb7];exact a3_ hR
  clear hb7 hX hR hBx
  have e0:=a2_ (j:=0) (HGS.out w3 hB3)
  have e1:=a2_ (j:=0) hX3
  simp at e0 e1
  go_region_held3 (fun w'=>w'.cell? ⟨gs,0,none⟩=some (.pointer (some ⟨gp,0,none⟩))/\w'.cell? ⟨w.heap.size,0,none⟩=some (.int .i64 (i:Nat)))
   (first|exact ⟨e0,e1⟩|exact ⟨e0',e1'⟩)
   ((go_at_call 51;refine (HPC.out _ (HPN1.out _ aA_).1 (HPN1.out _ aA_).2).mono ?_;rintro e w4 ⟨rfl,hB4⟩;have e0':=(hB4.cell (p:=⟨gs,0,none⟩) (a3_ (HGS.out w3 hB3))).trans e0;have e1':=(hB4.cell (p:=⟨w.heap.size,0,none⟩) (a3_ hX3)).trans e1))
  have hB34:Below w3.heap.size w3 w4:=by first|exact hB4|exact b7_ hB4|exact cC_ hB4
  have HC4:=hd_ (HCS.out.past (hB3.trans (hB34.mono hB3.size)))
  have GB4:=hd_ (gG_ (hB3.trans (hB34.mono hB3.size)) bm)
  have HX4:=hd_ (a5_ hX3 hB34)
  have HR4:=hd_ (a5_ hR3 hB34)
  have H74:=hd_ (a5_ h73 hB34)
  clear hB4 hB34 hB3 hX3 hR3 h73 e0 e1 e0' e1'
  go_wp2_with fail
  go_loopw [13] (fun s13 wr=>CS w0 gs gp bm W l wr/\w.grownBy wr (some bm)/\wr.heap[w.heap.size]?=some (.cells #[.int .i64 (i:Nat),.int .i64 (col:Nat)] 181 (0,0))/\wr.heap[w.heap.size+1]?=some (.cells #[.int .i64 0,.int .i64 0,.int .i64 0] 178 (0,0))/\((s13=.int .i64 0/\wr.heap[b7]?=some (.cells #[.int .i64 0,.int .i64 0,.int .i64 (-1)] 178 (0,0)))∨(s13=.int .i64 1/\wr.heap[b7]?=some (.cells #[.int .i64 (pa0:Nat),.int .i64 (pb0:Nat),.int .i64 0] 178 (0,0)))∨(s13=.int .i64 2/\wr.heap[b7]?=some (.cells #[.int .i64 (pa1:Nat),.int .i64 (pb1:Nat),.int .i64 1] 178 (0,0))))) (fun s13 _=>2-(intOf s13).toNat)
  case atStart=>exact ⟨HC4.out,GB4.out,HX4.out,HR4.out,.inl ⟨rfl,H74.out⟩⟩
  case round =>
   obtain ⟨hcr,hgr,hxr,hrr,h7r⟩:=hrel
   have HC:=hd_ hcr;have GB:=hd_ hgr;have HX:=hd_ hxr;have HR:=hd_ hrr
   have HPW:Hid (∀ W',Below wr.heap.size wr W'->b5_ W' gp A c l/\Nds W' W'.heap.size A l):=hd_ (fun W' hb=>HPN.out W' (hcr.bel.trans (hb.mono hcr.bel.size)))
   clear hcr hgr hxr hrr HC4 GB4 HX4 HR4 H74
   rcases h7r with ⟨rfl,h7c⟩|⟨rfl,h7c⟩|⟨rfl,h7c⟩
   ·exact lq24
   ·have H7:=hd_ h7c
    clear h7c
    have e0:=a2_ (j:=0) HC.out.blk
    have e1:=a2_ (j:=0) HX.out
    simp at e0 e1
    go_wp2_with fail
    go_region_held3 (fun w'=>w'.cell? ⟨gs,0,none⟩=some (.pointer (some ⟨gp,0,none⟩))/\w'.cell? ⟨w.heap.size,0,none⟩=some (.int .i64 (i:Nat)))
     (first|exact ⟨e0,e1⟩|exact ⟨e0',e1'⟩)
     ((go_at_call 52;refine (HCH1.out _ (HPW.out _ aA_).1 (HPW.out _ aA_).2).mono ?_;rintro e w4 ⟨rfl,hB4⟩;have e0':=(hB4.cell (p:=⟨gs,0,none⟩) (a3_ HC.out.blk)).trans e0;have e1':=(hB4.cell (p:=⟨w.heap.size,0,none⟩) (a3_ HX.out)).trans e1))
    have hB34:Below wr.heap.size wr w4:=by first|exact hB4|exact b7_ hB4|exact cC_ hB4
    have HC4:=hd_ (HC.out.past hB34);have GB4:=hd_ (dC_ GB.out hB34);have HX4:=hd_ (a5_ HX.out hB34);have HR4:=hd_ (a5_ HR.out hB34);have H74:=hd_ (a5_ H7.out hB34)
    have e2:=a2_ (j:=1) HX4.out
    simp at e2
    clear hB4 hB34 e0 e1 e0' e1' HC GB HX HR H7
    go_wp2_with (go_at_call 152;refine (HPUT1.out _ HC4.out.blk).mono ?_;rintro e w5 ⟨rfl,hB5⟩)
    refine g8_ (fun w6=>CS w0 gs gp bm W l w6/\w.grownBy w6 (some bm)/\w6.heap[w.heap.size]?=some (.cells #[.int .i64 (i:Nat),.int .i64 (col:Nat)] 181 (0,0))/\w6.heap[w.heap.size+1]?=some (.cells #[.int .i64 0,.int .i64 0,.int .i64 0] 178 (0,0))/\w6.heap[b7]?=some (.cells #[.int .i64 (pa0:Nat),.int .i64 (pb0:Nat),.int .i64 0] 178 (0,0))/\w6.heap[w5.heap.size]?=some (.cells #[.int .i64 (ea1:Nat),.int .i64 (eb1:Nat)] 47 (0,0)))
     ⟨(HC4.out.past hB5).past ((Below.refl _ _).alloc (Nat.le_refl _) _),lP_ (dC_ GB4.out hB5) _,(Below.heap_alloc _ _ _ (a3_ (a5_ HX4.out hB5))).trans (a5_ HX4.out hB5),(Below.heap_alloc _ _ _ (a3_ (a5_ HR4.out hB5))).trans (a5_ HR4.out hB5),(Below.heap_alloc _ _ _ (a3_ (a5_ H74.out hB5))).trans (a5_ H74.out hB5),aN_ rfl⟩ ?_
    rintro w6 ⟨hc6,hg6,hX6,hR6,h76,h116⟩
    obtain ⟨b11,hb11⟩:∃ b11,w5.heap.size=b11:=⟨_,rfl⟩
    rw [hb11] at h116 ⊢
    have hb11':b7<b11:=by rw [← hb11];exact a3_ (a5_ H74.out hB5)
    clear hb11 hB5 e2 HC4 GB4 HX4 HR4 H74
    have f0:=a2_ (j:=0) h116
    have f1:=a2_ (j:=1) h116
    simp at f0 f1
    have hfld:=gE_
    have HC6:Hid (∀ W',Below w6.heap.size w6 W'->CS w0 gs gp bm W l W'):=hd_ (fun W' hb=>hc6.past hb)
    have HG6:=hd_ hg6
    clear hc6 hg6
    go_region_with (first
      | (go_at_call 97;refine (HCP1.out _ (HC6.out _ aA_)).mono ?_;rintro e w7 ⟨rfl,hcs7,hg7⟩;have HC7:=hd_ hcs7;have HG7:=hd_ hg7;have h117:=cA_ hg7 h116 (by omega);have f0':=(show w7.cell? ⟨b11,0,none⟩=some (.int .i64 (ea1:Nat)) from a2_ (j:=0) h117);have f1':=(show w7.cell? ⟨b11,1,none⟩=some (.int .i64 (eb1:Nat)) from a2_ (j:=1) h117);clear hcs7 hg7)
      | (go_at_call 153;refine (HPL1.out _).mono ?_;rintro e w8 ⟨rfl,hB8⟩;have HB8:=hd_ hB8;have f0'':=(hB8.cell (p:=⟨b11,0,none⟩) (a3_ h117)).trans f0';have f1'':=(hB8.cell (p:=⟨b11,1,none⟩) (a3_ h117)).trans f1';have k0:=(hB8.frozen (p:=⟨b11,0,none⟩) (a3_ h117)).trans (b3_ (j:=0) h117);have k1:=(hB8.frozen (p:=⟨b11,1,none⟩) (a3_ h117)).trans (b3_ (j:=1) h117);clear hB8))
    all_goals
     have hB78:Below w7.heap.size w7 w8:=by first|exact HB8.out|exact b7_ HB8.out|exact cC_ HB8.out
     have gb7:w.grownBy w7 (some bm):=a0_ (by first|exact HG6.out|exact iE_ HG6.out|exact lQ_ HG6.out _) HG7.out
     have HG8:=hd_ (dC_ gb7 hB78)
     have HC8:=hd_ (HC7.out.past hB78)
     have hX8:=a5_ (cA_ HG7.out hX6 (by omega)) hB78
     have hR8:=a5_ (cA_ HG7.out hR6 (by omega)) hB78
     have h78:=a5_ (cA_ HG7.out h76 (by omega)) hB78
     have h118:=a5_ h117 hB78
     clear f0 f1 f0' f1' f0'' f1'' k0 k1 hfld h117 HB8 HG7 HC7 gb7 hB78 hX6 hR6 h76 h116 HC6 HG6
     refine f9_ (fun w9=>CS w0 gs gp bm W l w9/\w.grownBy w9 (some bm)/\w9.heap[w.heap.size]?=some (.cells #[.int .i64 (i:Nat),.int .i64 (col:Nat)] 181 (0,0))/\w9.heap[w.heap.size+1]?=some (.cells #[.int .i64 0,.int .i64 0,.int .i64 0] 178 (0,0))/\w9.heap[b7]?=some (.cells #[.int .i64 (pa0:Nat),.int .i64 (pb0:Nat),.int .i64 0] 178 (0,0))/\w9.heap[b11]?=some (.cells #[.int .i64 (pa1:Nat),.int .i64 (pb1:Nat)] 47 (0,0)))
      ⟨HC8.out.set2_ (by omega) (by omega) (by have:=HCS.out.bel.size;omega) _ _,o5_ HG8.out (by omega) _ _,eH_ hX8 (by omega) _ _,eH_ hR8 (by omega) _ _,eH_ h78 (by omega) _ _,i8_ h118⟩ ?_
     rintro w9 ⟨hC9,gb9,hX9,hR9,h79,h119⟩
     have HC9:=hd_ hC9;have GB9:=hd_ gb9;have HX9:=hd_ hX9;have HR9:=hd_ hR9;have H79:=hd_ h79;have H119:=hd_ h119
     clear hC9 gb9 hX9 hR9 h79 h119 hX8 hR8 h78 h118 HC8 HG8
     have m0:=a2_ (j:=0) H79.out
     have m1:=a2_ (j:=1) H79.out
     have m2:=a2_ (j:=2) H79.out
     have m3:=a2_ (j:=0) H119.out
     have m4:=a2_ (j:=1) H119.out
     have m5:=b3_ (j:=0) H79.out
     have m6:=b3_ (j:=1) H79.out
     have m7:=b3_ (j:=2) H79.out
     simp at m0 m1 m2 m3 m4
     go_wp2_with (go_at_call 154;refine (HUN.out _).mono ?_;rintro e w10 ⟨rfl,hB10⟩;have n3:=(hB10.cell (p:=⟨b11,0,none⟩) (a3_ H119.out)).trans m3;have n4:=(hB10.cell (p:=⟨b11,1,none⟩) (a3_ H119.out)).trans m4;have n0:=(hB10.cell (p:=⟨b7,0,none⟩) (a3_ H79.out)).trans m0;have n1:=(hB10.cell (p:=⟨b7,1,none⟩) (a3_ H79.out)).trans m1;have n2:=(hB10.cell (p:=⟨b7,2,none⟩) (a3_ H79.out)).trans m2;have n5:=(hB10.frozen (p:=⟨b7,0,none⟩) (a3_ H79.out)).trans m5;have n6:=(hB10.frozen (p:=⟨b7,1,none⟩) (a3_ H79.out)).trans m6;have n7:=(hB10.frozen (p:=⟨b7,2,none⟩) (a3_ H79.out)).trans m7)
     go_roundw
     case measure=>simp [intOf]
     case rel=>exact ⟨(HC9.out.past hB10).set3_ (by omega) (by omega) (by have:=HCS.out.bel.size;omega) _ _ _,jN_ (dC_ GB9.out hB10) (by omega) _ _ _,gO_ (a5_ HX9.out hB10) (by omega) _ _ _,gO_ (a5_ HR9.out hB10) (by omega) _ _ _,.inr (.inr ⟨by first|rfl|go_num,hI_ (a5_ H79.out hB10)⟩)⟩
   exact lq25
end Go.Proofs.YtddfdmopaeghnacGreatDoor
