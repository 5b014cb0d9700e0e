/- Plain facts on laying docs by choices: more choices, deeper, all ways. With what it rests on. Conditions: as each theorem states them. -/
import Derived.Test.YtddfdmopaeghnadGreatDoorRqWp
import Derived.Laws.Closers25
import Derived.Below
import Derived.Test.YtddfdmopaeghnadGreatDoorRqOp
import Derived.Test.YtddfdmopaeghnadGreatDoorRqSh
import Derived.BigQuiet
import Derived.Deep.QuietTactic
import Derived.IntWalk
import Derived.Deep.RegionHeld3
import Derived.Laws.Concat
import Derived.Laws.ResultCell
import Derived.Maps.OwnOps
import Derived.DeepKeys4
set_option maxRecDepth 100000
set_option maxHeartbeats 16000000
namespace Go.Proofs.YtddfdmopaeghnadGreatDoor
theorem D.lay_more {x:D}:∀ {dp:Int} {w r v:List Int} {s:ByteArray},x.lay dp w=.ok (s,r)->x.lay dp (w++v)=.ok (s,r++v):=by
 induction x with
 | leaf d =>
  intro dp w r v s h
  simp only [D.lay] at h ⊢
  by_cases h1:d.op=1
  ·rw [if_pos h1] at h ⊢;cases h;rfl
  ·rw [if_neg h1] at h ⊢
   by_cases h5:d.op=5
   ·rw [if_pos h5] at h ⊢;cases h;rfl
   ·rw [if_neg h5] at h ⊢;cases h;rfl
 | un d a ih =>
  intro dp w r v s h
  simp only [D.lay] at h ⊢
  by_cases h7:d.op=7
  ·rw [if_pos h7] at h ⊢;exact ih h
  ·rw [if_neg h7] at h ⊢
   cases w with
   | nil=>cases h
   | cons c w' =>
    simp only [List.cons_append] at h ⊢
    by_cases hc:c=0
    ·rw [if_pos hc] at h ⊢
     cases hf:a.flat with
     | none=>rw [hf] at h;cases h
     | some t=>rw [hf] at h;cases h;rfl
    ·rw [if_neg hc] at h ⊢;exact ih h
 | bin d a b ia ib =>
  intro dp w r v s h
  simp only [D.lay] at h ⊢
  by_cases h6:d.op=6
  ·rw [if_pos h6] at h ⊢
   cases ha:a.lay (dp+d.n) w with
   | error e=>rw [ha] at h;cases h
   | ok p =>
    obtain ⟨s1,w1⟩:=p
    rw [ha] at h
    rw [ia ha]
    simp only at h ⊢
    cases hb:b.lay (dp+d.n) w1 with
    | error e=>rw [hb] at h;cases h
    | ok q =>
     obtain ⟨s2,w2⟩:=q
     rw [hb] at h
     rw [ib hb]
     cases h;rfl
  ·rw [if_neg h6] at h ⊢
   cases w with
   | nil=>cases h
   | cons c w' =>
    simp only [List.cons_append] at h ⊢
    by_cases hc:c=0
    ·rw [if_pos hc] at h ⊢;exact ia h
    ·rw [if_neg hc] at h ⊢;exact ib h
def D.good (x:D):Prop:=∀ d ∈ x.enc,oneF d.op d.text d.n=0
theorem oneF_text {d:Nd} (h:oneF d.op d.text d.n=0) (h1:d.op=1):∀ c ∈ d.text.data.toList,c≠10:=by
 unfold oneF at h
 rw [if_neg (by omega)] at h
 split at h
 ·cases h
 ·split at h
  ·cases h
  ·rename_i hh
   have hp:prtAll d.text=true:=by
    cases hp:prtAll d.text with
    | true=>rfl
    | false=>exact absurd ⟨h1,.inr (.inr hp)⟩ hh
   intro c hc e
   have:=List.all_eq_true.1 hp c hc
   subst e
   revert this;decide
theorem oneF_size {d:Nd} (h:oneF d.op d.text d.n=0):d.text.size<=20:=by
 by_cases h1:d.op=1
 ·unfold oneF at h
  rw [if_neg (by omega)] at h
  split at h
  ·cases h
  ·split at h
   ·cases h
   ·rename_i hh
    rcases Nat.lt_or_ge 20 d.text.size with h2|h2
    ·exact absurd ⟨h1,.inr (.inl h2)⟩ hh
    ·exact h2
 ·unfold oneF at h
  split at h
  ·cases h
  ·split at h
   ·cases h
   ·rename_i hh
    have ht:d.text.toList=[]:=by
     cases ht:d.text.toList with
     | nil=>rfl
     | cons a r=>exact absurd (.inl ⟨h1,by rw [ht];simp⟩) hh
    rw [ByteArray.toList_eq] at ht
    have h0:d.text.data.toList.length=0:=by rw [ht];rfl
    have h1:d.text.data.toList.length=d.text.size:=by simp
    omega
theorem D.good_un {d:Nd} {a:D} (h:(D.un d a).good):a.good:=fun e he=>h e (by simp [D.enc,he])
theorem D.good_l {d:Nd} {a b:D} (h:(D.bin d a b).good):a.good:=fun e he=>h e (by simp [D.enc,he])
theorem D.good_r {d:Nd} {a b:D} (h:(D.bin d a b).good):b.good:=fun e he=>h e (by simp [D.enc,he])
theorem D.flat_no {x:D}:∀ {s:ByteArray},x.good->x.flat=some s->∀ c ∈ s.data.toList,c≠10:=by
 induction x with
 | leaf d =>
  intro s hg h
  simp only [D.flat] at h
  split at h
  ·rename_i h1;cases h;exact oneF_text (hg d (by simp [D.enc])) h1
  ·split at h
   ·cases h;intro c hc;simp at hc;subst hc;decide
   ·split at h
    ·cases h;intro c hc;simp at hc
    ·cases h
 | un d a ih=>intro s hg h;exact ih (D.good_un hg) h
 | bin d a b ia ib =>
  intro s hg h
  simp only [D.flat] at h
  split at h
  ·cases ha:a.flat with
   | none=>rw [ha] at h;simp at h
   | some p =>
    cases hb:b.flat with
    | none=>rw [ha,hb] at h;simp at h
    | some q =>
     rw [ha,hb] at h
     simp only [Option.some.injEq] at h
     subst h
     intro c hc
     simp only [ByteArray.data_append,Array.toList_append,List.mem_append] at hc
     rcases hc with hc|hc
     ·exact ia (D.good_l hg) ha c hc
     ·exact ib (D.good_r hg) hb c hc
  ·exact ia (D.good_l hg) h
theorem rq30 {P:Prop} (h:P:=by
 induction y with
 | leaf d =>
  intro hg t ht
  have:=oneF_size (hg d (by simp [D.enc]))
  simp only [D.flat] at ht
  split at ht
  ·cases ht;simp only [D.sz];omega
  ·split at ht
   ·cases ht;simp [ByteArray.size,D.sz]
   ·split at ht
    ·cases ht;simp
    ·cases ht
 | un d a ih=>intro hg t ht;have:=ih (D.good_un hg) t ht;simp only [D.sz];omega
 | bin d a b ia ib =>
  intro hg t ht
  simp only [D.flat] at ht
  split at ht
  ·cases ha:a.flat with
   | none=>rw [ha] at ht;simp at ht
   | some p =>
    cases hb:b.flat with
    | none=>rw [ha,hb] at ht;simp at ht
    | some q =>
     rw [ha,hb] at ht
     simp only [Option.some.injEq] at ht
     subst ht
     have h1:=ia (D.good_l hg) p ha
     have h2:=ib (D.good_r hg) q hb
     rw [ByteArray.size_append]
     simp only [D.sz];omega
  ·have:=ia (D.good_l hg) t ht;simp only [D.sz];omega):P:=h
theorem D.lay_size {x:D}:∀ {dp:Int} {w r:List Int} {s:ByteArray},x.good->0<=dp->x.lay dp w=.ok (s,r)->s.size<=x.sz*(21+(dp.toNat+8*x.sz)):=by
 have flat_sz:∀ y:D,y.good->∀ t,y.flat=some t->t.size<=20*y.sz:=by
  intro y
  exact rq30
 have key:∀ {y:D} {m:Nat} {dp:Int} {w r:List Int} {s:ByteArray},y.good->0<=dp->dp.toNat+8*y.sz<=m->y.lay dp w=.ok (s,r)->s.size<=y.sz*(21+m):=by
  intro y
  induction y with
  | leaf d =>
   intro m dp w r s hg hd hm h
   have:=oneF_size (hg d (by simp [D.enc]))
   simp only [D.lay] at h
   simp only [D.sz] at hm ⊢
   split at h
   ·cases h;omega
   ·split at h
    ·cases h;simp
    ·cases h
     rw [ByteArray.size_append]
     simp [ByteArray.size,blanksB]
     omega
  | un d a ih =>
   intro m dp w r s hg hd hm h
   have hn:=oneF_n (hg d (by simp [D.enc]))
   simp only [D.lay] at h
   simp only [D.sz] at hm ⊢
   have hmul:(a.sz+1)*(21+m)=a.sz*(21+m)+(21+m):=by rw [Nat.add_mul,Nat.one_mul]
   split at h
   ·have:=ih (m:=m) (D.good_un hg) (by omega) (by omega) h;omega
   ·cases w with
    | nil=>cases h
    | cons c w' =>
     simp only at h
     split at h
     ·cases hf:a.flat with
      | none=>rw [hf] at h;cases h
      | some t =>
       rw [hf] at h;cases h
       have h1:=flat_sz a (D.good_un hg) s hf
       have h2:20*a.sz<=a.sz*(21+m):=by rw [Nat.mul_comm];exact Nat.mul_le_mul_left _ (by omega)
       omega
     ·have:=ih (m:=m) (D.good_un hg) (by omega) (by omega) h;omega
  | bin d a b ia ib =>
   intro m dp w r s hg hd hm h
   have hn:=oneF_n (hg d (by simp [D.enc]))
   simp only [D.lay] at h
   simp only [D.sz] at hm ⊢
   have hmul:(a.sz+b.sz+1)*(21+m)=a.sz*(21+m)+b.sz*(21+m)+(21+m):=by rw [Nat.add_mul,Nat.add_mul,Nat.one_mul]
   split at h
   ·cases ha:a.lay (dp+d.n) w with
    | error e=>rw [ha] at h;cases h
    | ok p =>
     obtain ⟨s1,w1⟩:=p
     rw [ha] at h
     simp only at h
     cases hb:b.lay (dp+d.n) w1 with
     | error e=>rw [hb] at h;cases h
     | ok q =>
      obtain ⟨s2,w2⟩:=q
      rw [hb] at h
      cases h
      have h1:=ia (m:=m) (D.good_l hg) (by omega) (by omega) ha
      have h2:=ib (m:=m) (D.good_r hg) (by omega) (by omega) hb
      rw [ByteArray.size_append]
      omega
   ·cases w with
    | nil=>cases h
    | cons c w' =>
     simp only at h
     split at h
     ·have:=ia (m:=m) (D.good_l hg) (by omega) (by omega) h;omega
     ·have:=ib (m:=m) (D.good_r hg) (by omega) (by omega) h;omega
 intro dp w r s hg hd h
 exact key hg hd (Nat.le_refl _) h
end Go.Proofs.YtddfdmopaeghnadGreatDoor
namespace Go.Proofs.YtddfdmopaeghnadGreatDoor
def D.ways:D->List (List Int)
 | .leaf _=>[[]]
 | .un d a=>if d.op=7 then a.ways else (if a.flat.isSome=true then [[0]] else [])++a.ways.map (1::·)
 | .bin d a b=>if d.op=6 then a.ways.flatMap (fun u=>b.ways.map (u++·)) else a.ways.map (0::·)++b.ways.map (1::·)
def Bits (w:List Int):Prop:=∀ c ∈ w,c=0∨c=1
theorem D.ways_bits {x:D}:∀ u ∈ x.ways,Bits u:=by
 induction x with
 | leaf d=>intro u hu;simp [D.ways] at hu;subst hu;intro c hc;cases hc
 | un d a ih =>
  intro u hu
  simp only [D.ways] at hu
  split at hu
  ·exact ih u hu
  ·rcases List.mem_append.1 hu with hu|hu
   ·split at hu
    ·simp at hu;subst hu;intro c hc;simp at hc;exact .inl hc
    ·cases hu
   ·obtain ⟨v,hv,rfl⟩:=List.mem_map.1 hu
    intro c hc
    rcases List.mem_cons.1 hc with rfl|hc
    ·exact .inr rfl
    ·exact ih v hv c hc
 | bin d a b ia ib =>
  intro u hu
  simp only [D.ways] at hu
  split at hu
  ·obtain ⟨v,hv,hu⟩:=List.mem_flatMap.1 hu
   obtain ⟨z,hz,rfl⟩:=List.mem_map.1 hu
   intro c hc
   rcases List.mem_append.1 hc with hc|hc
   ·exact ia v hv c hc
   ·exact ib z hz c hc
  ·rcases List.mem_append.1 hu with hu|hu
   ·obtain ⟨v,hv,rfl⟩:=List.mem_map.1 hu
    intro c hc
    rcases List.mem_cons.1 hc with rfl|hc
    ·exact .inl rfl
    ·exact ia v hv c hc
   ·obtain ⟨v,hv,rfl⟩:=List.mem_map.1 hu
    intro c hc
    rcases List.mem_cons.1 hc with rfl|hc
    ·exact .inr rfl
    ·exact ib v hv c hc
theorem D.ways_ne {x:D}:x.ways≠[]:=by
 induction x with
 | leaf d=>simp [D.ways]
 | un d a ih =>
  simp only [D.ways]
  split
  ·exact ih
  ·simp [ih]
 | bin d a b ia ib =>
  simp only [D.ways]
  split
  ·intro h
   rw [List.flatMap_eq_nil_iff] at h
   cases ha:a.ways with
   | nil=>exact ia ha
   | cons u r =>
    have:=h u (by rw [ha];simp)
    simp [ib] at this
  ·simp [ia]
theorem D.lay_way {x:D}:∀ {dp:Int} {u:List Int},u ∈ x.ways->∃ s,x.lay dp u=.ok (s,[]):=by
 induction x with
 | leaf d =>
  intro dp u hu
  simp [D.ways] at hu;subst hu
  simp only [D.lay]
  split
  ·exact ⟨_,rfl⟩
  ·split <;> exact ⟨_,rfl⟩
 | un d a ih =>
  intro dp u hu
  simp only [D.ways] at hu
  simp only [D.lay]
  by_cases h7:d.op=7
  ·rw [if_pos h7] at hu ⊢;exact ih hu
  ·rw [if_neg h7] at hu ⊢
   rcases List.mem_append.1 hu with hu|hu
   ·split at hu
    ·rename_i hf
     simp at hu;subst hu
     simp only [if_true]
     cases h:a.flat with
     | none=>rw [h] at hf;cases hf
     | some s=>exact ⟨s,rfl⟩
    ·cases hu
   ·obtain ⟨v,hv,rfl⟩:=List.mem_map.1 hu
    simp only
    rw [if_neg (by decide)]
    exact ih hv
 | bin d a b ia ib =>
  intro dp u hu
  simp only [D.ways] at hu
  simp only [D.lay]
  by_cases h6:d.op=6
  ·rw [if_pos h6] at hu ⊢
   obtain ⟨v,hv,hu⟩:=List.mem_flatMap.1 hu
   obtain ⟨z,hz,rfl⟩:=List.mem_map.1 hu
   obtain ⟨s,hs⟩:=ia (dp:=dp+d.n) hv
   obtain ⟨t,ht⟩:=ib (dp:=dp+d.n) hz
   rw [D.lay_more hs]
   simp only [List.nil_append]
   rw [ht]
   exact ⟨_,rfl⟩
  ·rw [if_neg h6] at hu ⊢
   rcases List.mem_append.1 hu with hu|hu
   ·obtain ⟨v,hv,rfl⟩:=List.mem_map.1 hu
    simp only
    rw [if_pos trivial]
    exact ia hv
   ·obtain ⟨v,hv,rfl⟩:=List.mem_map.1 hu
    simp only
    rw [if_neg (by decide)]
    exact ib hv
theorem D.way_of {x:D}:∀ {dp:Int} {w r:List Int} {s:ByteArray},Bits w->x.lay dp w=.ok (s,r)->∃ u,u ∈ x.ways/\w=u++r/\x.lay dp u=.ok (s,[]):=by
 induction x with
 | leaf d =>
  intro dp w r s _ h
  refine ⟨[],by simp [D.ways], ?_⟩
  simp only [D.lay] at h ⊢
  by_cases h1:d.op=1
  ·rw [if_pos h1] at h ⊢;cases h;exact ⟨rfl,rfl⟩
  ·rw [if_neg h1] at h ⊢
   by_cases h5:d.op=5
   ·rw [if_pos h5] at h ⊢;cases h;exact ⟨rfl,rfl⟩
   ·rw [if_neg h5] at h ⊢;cases h;exact ⟨rfl,rfl⟩
 | un d a ih =>
  intro dp w r s hb h
  simp only [D.lay] at h
  simp only [D.ways,D.lay]
  by_cases h7:d.op=7
  ·rw [if_pos h7] at h ⊢
   obtain ⟨u,h1,h2,h3⟩:=ih hb h
   exact ⟨u,h1,h2,by rw [if_pos h7];exact h3⟩
  ·rw [if_neg h7] at h ⊢
   cases w with
   | nil=>cases h
   | cons c w' =>
    simp only at h
    by_cases hc:c=0
    ·rw [if_pos hc] at h
     cases hf:a.flat with
     | none=>rw [hf] at h;cases h
     | some t =>
      rw [hf] at h;cases h
      refine ⟨[0],List.mem_append_left _ (by simp),by rw [hc];rfl, ?_⟩
      rw [if_neg h7];rfl
    ·rw [if_neg hc] at h
     have hc1:c=1:=by have:=hb c (by simp);omega
     obtain ⟨u,h1,h2,h3⟩:=ih (fun y hy=>hb y (by simp [hy])) h
     refine ⟨1::u,List.mem_append_right _ (List.mem_map_of_mem h1),by rw [hc1,h2];rfl, ?_⟩
     rw [if_neg h7];simp only;rw [if_neg (by decide)];exact h3
 | bin d a b ia ib =>
  intro dp w r s hb h
  simp only [D.lay] at h
  simp only [D.ways,D.lay]
  by_cases h6:d.op=6
  ·rw [if_pos h6] at h ⊢
   cases ha:a.lay (dp+d.n) w with
   | error e=>rw [ha] at h;cases h
   | ok p =>
    obtain ⟨s1,w1⟩:=p
    rw [ha] at h
    simp only at h
    cases hbb:b.lay (dp+d.n) w1 with
    | error e=>rw [hbb] at h;cases h
    | ok q =>
     obtain ⟨s2,w2⟩:=q
     rw [hbb] at h
     cases h
     obtain ⟨u,h1,h2,h3⟩:=ia hb ha
     obtain ⟨v,g1,g2,g3⟩:=ib (fun y hy=>hb y (by rw [h2];simp [hy])) hbb
     refine ⟨u++v,List.mem_flatMap.2 ⟨u,h1,List.mem_map_of_mem g1⟩,by rw [h2,g2,List.append_assoc], ?_⟩
     rw [if_pos h6,D.lay_more h3]
     simp only [List.nil_append]
     rw [g3]
  ·rw [if_neg h6] at h ⊢
   cases w with
   | nil=>cases h
   | cons c w' =>
    simp only at h
    by_cases hc:c=0
    ·rw [if_pos hc] at h
     obtain ⟨u,h1,h2,h3⟩:=ia (fun y hy=>hb y (by simp [hy])) h
     refine ⟨0::u,List.mem_append_left _ (List.mem_map_of_mem h1),by rw [hc,h2];rfl, ?_⟩
     rw [if_neg h6];simp only;rw [if_pos trivial];exact h3
    ·rw [if_neg hc] at h
     have hc1:c=1:=by have:=hb c (by simp);omega
     obtain ⟨u,h1,h2,h3⟩:=ib (fun y hy=>hb y (by simp [hy])) h
     refine ⟨1::u,List.mem_append_right _ (List.mem_map_of_mem h1),by rw [hc1,h2];rfl, ?_⟩
     rw [if_neg h6];simp only;rw [if_neg (by decide)];exact h3
def aheadL:List Int->List Int->Bool
 | a::r,b::s=>if a=b then aheadL r s else decide (a<b)
 | _,_=>false
theorem ahead_same (u:List Int) {v z:List Int} (h:aheadL v z=true):aheadL (u++v) (u++z)=true:=by
 induction u with
 | nil=>exact h
 | cons a r ih=>simpa [aheadL] using ih
theorem ahead_more {u v:List Int} (h:aheadL u v=true) (a b:List Int):aheadL (u++a) (v++b)=true:=by
 induction u generalizing v with
 | nil=>cases v <;> simp [aheadL] at h
 | cons c r ih =>
  cases v with
  | nil=>simp [aheadL] at h
  | cons e s =>
   simp only [List.cons_append,aheadL] at h ⊢
   split
   ·rename_i he;rw [if_pos he] at h;exact ih h
   ·rename_i he;rw [if_neg he] at h;exact h
theorem D.ways_rise {x:D}:x.ways.Pairwise (fun a b=>aheadL a b=true):=by
 have one:∀ (c:Int) (l:List (List Int)),l.Pairwise (fun a b=>aheadL a b=true)->(l.map (c::·)).Pairwise (fun a b=>aheadL a b=true):=by
  intro c l h
  rw [List.pairwise_map]
  exact h.imp fun hh=>by simpa [aheadL] using hh
 have two:∀ (l m:List (List Int)),l.Pairwise (fun a b=>aheadL a b=true)->m.Pairwise (fun a b=>aheadL a b=true)->(l.map (0::·)++m.map (1::·)).Pairwise (fun a b=>aheadL a b=true):=by
  intro l m h1 h2
  rw [List.pairwise_append]
  refine ⟨one 0 l h1,one 1 m h2, ?_⟩
  intro a ha b hb
  obtain ⟨u,_,rfl⟩:=List.mem_map.1 ha
  obtain ⟨v,_,rfl⟩:=List.mem_map.1 hb
  simp [aheadL]
 induction x with
 | leaf d=>simp [D.ways]
 | un d a ih =>
  simp only [D.ways]
  split
  ·exact ih
  ·split
   ·have:=two [[]] a.ways (by simp) ih
    simpa using this
   ·simpa using one 1 a.ways ih
 | bin d a b ia ib =>
  simp only [D.ways]
  split
  ·rw [List.pairwise_flatMap]
   refine ⟨fun u _=>?_, ?_⟩
   ·rw [List.pairwise_map]
    exact ib.imp fun hh=>ahead_same u hh
   ·refine ia.imp ?_
    intro u v huv p hp q hq
    obtain ⟨z,_,rfl⟩:=List.mem_map.1 hp
    obtain ⟨y,_,rfl⟩:=List.mem_map.1 hq
    exact ahead_more huv z y
  ·exact two a.ways b.ways ia ib
theorem ahead_irr (u:List Int):aheadL u u=false:=by
 induction u with
 | nil=>rfl
 | cons a r ih=>simpa [aheadL] using ih
end Go.Proofs.YtddfdmopaeghnadGreatDoor
namespace Go.Proofs.YtddfdmopaeghnadGreatDoor
theorem Rep.uniq {l:List Nd} {i:Nat} {K:List (D × Int)} (h:Rep l i K):∀ {K'},Rep l i K'->K=K':=by
 induction h with
 | done =>
  intro K' h'
  exact (h'.ge (Nat.le_refl _)).1.symm
 | at_ i K hi _ ih =>
  intro K' h'
  obtain ⟨K2,e,hr⟩:=h'.lt hi
  rw [e,ih hr]
open Classical in
noncomputable def leftOf (l:List Nd) (i:Nat):Nat:=if h:∃ K,Rep l i K then szK h.choose else 0
theorem leftOf_eq {l:List Nd} {i:Nat} {K:List (D × Int)} (h:Rep l i K):leftOf l i=szK K:=by
 have hex:∃ K,Rep l i K:=⟨K,h⟩
 unfold leftOf
 rw [dif_pos hex,h.uniq hex.choose_spec]
theorem szK_pos {l:List Nd} {i:Nat} {K:List (D × Int)} (h:Rep l i K) (hi:i<l.length):0<szK K:=by
 obtain ⟨K',rfl,_⟩:=h.lt hi
 have:=(docAt l i).sz_pos
 simp only [szK];omega
def StepTo (l:List Nd) (_i:Nat) (K:List (D × Int)) (txt:ByteArray) (i':Nat) (K':List (D × Int)):Prop :=
 Rep l i' K'/\szK K'<szK K/\txt.size+3300*szK K'<=3300*szK K/\∀ ws acc,layK K ws acc=layK K' ws (acc++txt)
theorem app_empty (a:ByteArray):a++ByteArray.empty=a:=by simp
theorem Doc.leaf_ {l:List Nd} {x:D} (hd:Doc l x) {i:Nat} (hi:i<l.length) (hp:parts l[i].op=0):docAt l i=.leaf l[i]:=by
 rcases hd.parts_ hi with ⟨_,h⟩|⟨h,_⟩|⟨h,_⟩
 ·exact h
 ·omega
 ·omega
theorem step_word {l:List Nd} {x:D} (hd:Doc l x) {i:Nat} {K:List (D × Int)} {t:ByteArray} {n:Int} (hr:Rep l i K) (hi:i<l.length) (hnd:l[i]=⟨1,t,n⟩):∃ K',StepTo l i K t (nextAt l i) K':=by
 obtain ⟨K',rfl,hr'⟩:=hr.lt hi
 have hlf:=hd.leaf_ hi (by rw [hnd];rfl)
 have hone:=hd.one _ (List.getElem_mem hi)
 rw [hnd] at hone
 have hsz:=oneF_size (d:=⟨1,t,n⟩) hone
 simp only at hsz
 refine ⟨K',hr',by rw [hlf];simp only [szK,D.sz];omega,by rw [hlf];simp only [szK,D.sz];omega,fun ws acc=>?_⟩
 rw [hlf,hnd]
 simp only [layK,D.lay,if_true]
theorem step_zero {l:List Nd} {x:D} (hd:Doc l x) {i:Nat} {K:List (D × Int)} {t:ByteArray} {n:Int} (hr:Rep l i K) (hi:i<l.length) (hnd:l[i]=⟨5,t,n⟩):∃ K',StepTo l i K .empty (nextAt l i) K':=by
 obtain ⟨K',rfl,hr'⟩:=hr.lt hi
 have hlf:=hd.leaf_ hi (by rw [hnd];rfl)
 refine ⟨K',hr',by rw [hlf];simp only [szK,D.sz];omega,by rw [hlf];simp only [szK,D.sz,ByteArray.size_empty];omega,fun ws acc=>?_⟩
 rw [hlf,hnd]
 rfl
theorem step_line {l:List Nd} {x:D} (hd:Doc l x) {i:Nat} {K:List (D × Int)} {op:Int} {t:ByteArray} {n:Int} (hr:Rep l i K) (hi:i<l.length) (hnd:l[i]=⟨op,t,n⟩) (ho:op=2∨op=3∨op=4) :
  ∃ K',StepTo l i K (⟨#[10]⟩++blanksB (deepAt l i).toNat) (nextAt l i) K':=by
 obtain ⟨K',rfl,hr'⟩:=hr.lt hi
 have hp0:parts l[i].op=0:=by rw [hnd];rcases ho with rfl|rfl|rfl <;> rfl
 have hlf:=hd.leaf_ hi hp0
 have hdb:=hd.deep_bd i hi
 have h4:=hd.len
 have hbz:(⟨#[10]⟩++blanksB (deepAt l i).toNat:ByteArray).size<=3300:=by
  rw [ByteArray.size_append]
  have e1:(⟨#[10]⟩:ByteArray).size=1:=rfl
  have e2:(blanksB (deepAt l i).toNat).size=(deepAt l i).toNat:=by simp [blanksB,ByteArray.size]
  rw [e1,e2];omega
 refine ⟨K',hr',by rw [hlf];simp only [szK,D.sz];omega,by rw [hlf];simp only [szK,D.sz];omega,fun ws acc=>?_⟩
 rw [hlf,hnd]
 rcases ho with rfl|rfl|rfl <;> rfl
theorem step_both {l:List Nd} {x:D} (hd:Doc l x) {i:Nat} {K:List (D × Int)} {t:ByteArray} {n:Int} (hr:Rep l i K) (hi:i<l.length) (hnd:l[i]=⟨6,t,n⟩):∃ K',StepTo l i K .empty (i+1) K':=by
 obtain ⟨K',rfl,hr'⟩:=hr.lt hi
 have h6:l[i].op=6:=by rw [hnd]
 have hp2:parts l[i].op=2:=by rw [hnd];rfl
 obtain ⟨_,_,hdo,_⟩:=hd.plan_bin hi hp2
 refine ⟨_,Rep.both hd hi h6 hr',by rw [hdo];simp only [szK,D.sz];omega,by rw [hdo];simp only [szK,D.sz,ByteArray.size_empty];omega,fun ws acc=>?_⟩
 rw [hdo,layK_both h6,app_empty]
theorem step_deep {l:List Nd} {x:D} (hd:Doc l x) {i:Nat} {K:List (D × Int)} {t:ByteArray} {n:Int} (hr:Rep l i K) (hi:i<l.length) (hnd:l[i]=⟨7,t,n⟩):∃ K',StepTo l i K .empty (i+1) K':=by
 obtain ⟨K',rfl,hr'⟩:=hr.lt hi
 have h7:l[i].op=7:=by rw [hnd]
 have hp1:parts l[i].op=1:=by rw [hnd];rfl
 obtain ⟨_,hdo,_⟩:=hd.plan_un hi hp1
 refine ⟨_,Rep.un hd hi hp1 hr',by rw [hdo];simp only [szK,D.sz];omega,by rw [hdo];simp only [szK,D.sz,ByteArray.size_empty];omega,fun ws acc=>?_⟩
 rw [hdo,app_empty]
 simp only [layK,D.lay,h7,if_true]
def PickTo (l:List Nd) (_i:Nat) (K:List (D × Int)) (c:Int) (txt:ByteArray) (i':Nat) (K':List (D × Int)):Prop :=
 Rep l i' K'/\szK K'<szK K/\txt.size+3300*szK K'<=3300*szK K/\∀ ws acc,layK K (c::ws) acc=layK K' ws (acc++txt)
theorem pick_either {l:List Nd} {x:D} (hd:Doc l x) {i:Nat} {K:List (D × Int)} {t:ByteArray} {n c:Int} (hr:Rep l i K) (hi:i<l.length) (hnd:l[i]=⟨9,t,n⟩) (hc:c=0∨c=1):∃ K',PickTo l i K c .empty (if c=0 then i+1 else endAt l (i+1)) K':=by
 obtain ⟨K',rfl,hr'⟩:=hr.lt hi
 have h9:l[i].op=9:=by rw [hnd]
 have hp2:parts l[i].op=2:=by rw [hnd];rfl
 obtain ⟨_,_,hdo,_⟩:=hd.plan_bin hi hp2
 rcases hc with rfl|rfl
 ·refine ⟨_,Rep.either hd hi h9 hr',by rw [hdo];simp only [szK,D.sz];omega,by rw [hdo];simp only [szK,D.sz,ByteArray.size_empty];omega,fun ws acc=>?_⟩
  rw [hdo,app_empty]
  simp only [layK,D.lay,h9,if_true]
  rfl
 ·refine ⟨_,Rep.bin hd hi hp2 hr',by rw [hdo];simp only [szK,D.sz];omega,by rw [hdo];simp only [szK,D.sz,ByteArray.size_empty];omega,fun ws acc=>?_⟩
  rw [hdo,app_empty]
  simp only [layK,D.lay,h9]
  rfl
theorem pick_lines {l:List Nd} {x:D} (hd:Doc l x) {i:Nat} {K:List (D × Int)} {t:ByteArray} {n:Int} (hr:Rep l i K) (hi:i<l.length) (hnd:l[i]=⟨8,t,n⟩):∃ K',PickTo l i K 1 .empty (i+1) K':=by
 obtain ⟨K',rfl,hr'⟩:=hr.lt hi
 have h8:l[i].op=8:=by rw [hnd]
 have hp1:parts l[i].op=1:=by rw [hnd];rfl
 obtain ⟨_,hdo,_⟩:=hd.plan_un hi hp1
 refine ⟨_,Rep.un hd hi hp1 hr',by rw [hdo];simp only [szK,D.sz];omega,by rw [hdo];simp only [szK,D.sz,ByteArray.size_empty];omega,fun ws acc=>?_⟩
 rw [hdo,app_empty]
 simp only [layK,D.lay,h8]
 rfl
theorem Doc.good_at {l:List Nd} {x:D} (hd:Doc l x) {i:Nat} (hi:i<l.length):(docAt l i).good:=by
 obtain ⟨r,h1,_⟩:=hd.at_ hi
 intro d hdm
 have:d ∈ l.drop i:=by rw [h1];exact List.mem_append_left _ hdm
 exact hd.one d (List.mem_of_mem_drop this)
theorem flat_size {y:D}:y.good->∀ t,y.flat=some t->t.size<=20*y.sz:=by
 exact rq30
theorem pick_flat {l:List Nd} {x:D} (hd:Doc l x) {i:Nat} {K:List (D × Int)} {t s:ByteArray} {n:Int} (hr:Rep l i K) (hi:i<l.length) (hnd:l[i]=⟨8,t,n⟩) (hf:(docAt l (i+1)).flat=some s):∃ K',PickTo l i K 0 s (nextAt l i) K':=by
 obtain ⟨K',rfl,hr'⟩:=hr.lt hi
 have h8:l[i].op=8:=by rw [hnd]
 have hp1:parts l[i].op=1:=by rw [hnd];rfl
 obtain ⟨hil,hdo,_⟩:=hd.plan_un hi hp1
 have hsz:=flat_size (hd.good_at hil) s hf
 refine ⟨K',hr',by rw [hdo];simp only [szK,D.sz];omega,by rw [hdo];simp only [szK,D.sz];omega,fun ws acc=>?_⟩
 rw [hdo]
 simp only [layK,D.lay,h8]
 rw [if_neg (by decide)]
 simp only [if_true,hf]
def badBit (ws:List Int):Bool:=ws.any fun c=>decide (c≠0/\c≠1)
end Go.Proofs.YtddfdmopaeghnadGreatDoor
namespace Go.Proofs.YtddfdmopaeghnadGreatDoor
def waysK:List (D × Int)->List (List Int)
 | []=>[[]]
 | (x,_)::K=>x.ways.flatMap fun u=>(waysK K).map (u++·)
theorem waysK_one (x:D) (dp:Int):waysK [(x,dp)]=x.ways:=by
 simp only [waysK,List.map_cons,List.append_nil,List.map_nil]
 induction x.ways with
 | nil=>rfl
 | cons a r ih=>simp [ih]
theorem flatMap_nil_one (f:List (List Int)):([[]]:List (List Int)).flatMap (fun u=>f.map (u++·))=f:=by simp
def WalkTo (l:List Nd) (K:List (D × Int)) (i':Nat) (K':List (D × Int)):Prop:=Rep l i' K'/\szK K'<szK K/\waysK K=waysK K'
theorem walk_leaf {l:List Nd} {x:D} (hd:Doc l x) {i:Nat} {K:List (D × Int)} (hr:Rep l i K) (hi:i<l.length) (ho:parts l[i].op=0):∃ K',WalkTo l K (nextAt l i) K':=by
 obtain ⟨K',rfl,hr'⟩:=hr.lt hi
 have hlf:=hd.leaf_ hi ho
 refine ⟨K',hr',by rw [hlf];simp only [szK,D.sz];omega, ?_⟩
 rw [hlf]
 simp only [waysK,D.ways]
 exact flatMap_nil_one _
theorem flatMap_two (a b:List (List Int)) (f:List (List Int)):(a.flatMap (fun u=>b.map (u++·))).flatMap (fun u=>f.map (u++·))=a.flatMap (fun u=>(b.flatMap (fun v=>f.map (v++·))).map (u++·)):=by
 rw [List.flatMap_assoc]
 congr 1
 funext u
 rw [List.flatMap_map,List.map_flatMap]
 congr 1
 funext v
 rw [List.map_map]
 congr 1
 funext z
 simp
theorem walk_both {l:List Nd} {x:D} (hd:Doc l x) {i:Nat} {K:List (D × Int)} (hr:Rep l i K) (hi:i<l.length) (h6:l[i].op=6):∃ K',WalkTo l K (i+1) K':=by
 obtain ⟨K',rfl,hr'⟩:=hr.lt hi
 have hp2:parts l[i].op=2:=by rw [h6];rfl
 obtain ⟨_,_,hdo,_⟩:=hd.plan_bin hi hp2
 refine ⟨_,Rep.both hd hi h6 hr',by rw [hdo];simp only [szK,D.sz];omega, ?_⟩
 rw [hdo]
 simp only [waysK,D.ways,h6,if_true]
 exact flatMap_two _ _ _
theorem walk_deep {l:List Nd} {x:D} (hd:Doc l x) {i:Nat} {K:List (D × Int)} (hr:Rep l i K) (hi:i<l.length) (h7:l[i].op=7):∃ K',WalkTo l K (i+1) K':=by
 obtain ⟨K',rfl,hr'⟩:=hr.lt hi
 have hp1:parts l[i].op=1:=by rw [h7];rfl
 obtain ⟨_,hdo,_⟩:=hd.plan_un hi hp1
 refine ⟨_,Rep.un hd hi hp1 hr',by rw [hdo];simp only [szK,D.sz];omega, ?_⟩
 rw [hdo]
 simp only [waysK,D.ways,h7,if_true]
def PartTo (l:List Nd) (K:List (D × Int)) (ok0:Bool) (i0 i1:Nat) (K0 K1:List (D × Int)):Prop :=
 Rep l i0 K0/\Rep l i1 K1/\szK K0<szK K/\szK K1<szK K/\waysK K=(if ok0=true then (waysK K0).map (0::·) else [])++(waysK K1).map (1::·)
theorem flatMap_front (c:Int) (a f:List (List Int)):(a.map (c::·)).flatMap (fun u=>f.map (u++·))=(a.flatMap (fun u=>f.map (u++·))).map (c::·):=by
 rw [List.flatMap_map,List.map_flatMap]
 congr 1
 funext u
 rw [List.map_map]
 rfl
theorem part_either {l:List Nd} {x:D} (hd:Doc l x) {i:Nat} {K:List (D × Int)} (hr:Rep l i K) (hi:i<l.length) (h9:l[i].op=9):∃ K0 K1,PartTo l K true (i+1) (endAt l (i+1)) K0 K1:=by
 obtain ⟨K',rfl,hr'⟩:=hr.lt hi
 have hp2:parts l[i].op=2:=by rw [h9];rfl
 obtain ⟨_,_,hdo,_⟩:=hd.plan_bin hi hp2
 refine ⟨_,_,Rep.either hd hi h9 hr',Rep.bin hd hi hp2 hr',by rw [hdo];simp only [szK,D.sz];omega,by rw [hdo];simp only [szK,D.sz];omega, ?_⟩
 rw [hdo]
 have h6:¬ l[i].op=6:=by omega
 simp only [waysK,D.ways,if_neg h6,if_true]
 rw [List.flatMap_append,flatMap_front,flatMap_front]
theorem part_group {l:List Nd} {x:D} (hd:Doc l x) {i:Nat} {K:List (D × Int)} (hr:Rep l i K) (hi:i<l.length) (h8:l[i].op=8):∃ K0 K1,PartTo l K (docAt l (i+1)).flat.isSome (nextAt l i) (i+1) K0 K1:=by
 obtain ⟨K',rfl,hr'⟩:=hr.lt hi
 have hp1:parts l[i].op=1:=by rw [h8];rfl
 obtain ⟨_,hdo,_⟩:=hd.plan_un hi hp1
 refine ⟨_,_,hr',Rep.un hd hi hp1 hr',by rw [hdo];simp only [szK,D.sz];omega,by rw [hdo];simp only [szK,D.sz];omega, ?_⟩
 rw [hdo]
 have h7:¬ l[i].op=7:=by omega
 simp only [waysK,D.ways,if_neg h7]
 rw [List.flatMap_append,flatMap_front]
 congr 1
 split
 ·simp
 ·rfl
theorem waysK_ne (K:List (D × Int)):waysK K≠[]:=by
 induction K with
 | nil=>simp [waysK]
 | cons p K ih =>
  obtain ⟨x,dp⟩:=p
  simp only [waysK]
  intro h
  have:=D.ways_ne (x:=x)
  cases hx:x.ways with
  | nil=>exact this hx
  | cons u r =>
   rw [hx] at h
   simp at h
   exact ih h.1
end Go.Proofs.YtddfdmopaeghnadGreatDoor
namespace Go.Proofs.YtddfdmopaeghnadGreatDoor
def cLess (a b:Nat × Nat):Bool:=decide (a.1<b.1∨(a.1=b.1/\a.2<b.2))
def cAdd (a b:Nat × Nat):Nat × Nat:=(a.1+b.1,a.2+b.2)
theorem cLess_iff {a b:Nat × Nat}:cLess a b=true↔a.1<b.1∨(a.1=b.1/\a.2<b.2):=by simp [cLess]
theorem cLess_no {a b:Nat × Nat}:cLess a b=false↔b.1<a.1∨(b.1=a.1/\b.2<=a.2):=by
 simp only [cLess,decide_eq_false_iff_not];omega
theorem cLess_add (c a b:Nat × Nat):cLess (cAdd c a) (cAdd c b)=cLess a b:=by
 simp only [cLess,cAdd]
 congr 1
 simp only [eq_iff_iff]
 omega
theorem cLess_irr (a:Nat × Nat):cLess a a=false:=by simp [cLess]
def ovr (w:Nat):Nat->List UInt8->Nat
 | _,[]=>0
 | col,c::r=>if c=10 then ovr w 0 r else (if w<col+1 then 1 else 0)+ovr w (col+1) r
def lns:List UInt8->Nat
 | []=>0
 | c::r=>(if c=10 then 1 else 0)+lns r
def colOf:Nat->List UInt8->Nat
 | col,[]=>col
 | col,c::r=>if c=10 then colOf 0 r else colOf (col+1) r
def cst (w col:Nat) (s:List UInt8):Nat × Nat:=(ovr w col s,lns s)
theorem ovr_app (w:Nat):∀ (a:List UInt8) (col:Nat) (b:List UInt8),ovr w col (a++b)=ovr w col a+ovr w (colOf col a) b
 | [],col,b=>by simp [ovr,colOf]
 | c::r,col,b=>by
  simp only [List.cons_append,ovr,colOf]
  split
  ·exact ovr_app w r 0 b
  ·rw [ovr_app w r (col+1) b];omega
theorem lns_app:∀ (a b:List UInt8),lns (a++b)=lns a+lns b
 | [],b=>by simp [lns]
 | c::r,b=>by simp only [List.cons_append,lns,lns_app r b];omega
theorem cst_app (w col:Nat) (a b:List UInt8):cst w col (a++b)=cAdd (cst w col a) (cst w (colOf col a) b):=by
 simp [cst,cAdd,ovr_app,lns_app]
def NoNl (s:List UInt8):Prop:=∀ c ∈ s,c≠10
theorem ovr_no (w:Nat):∀ (s:List UInt8) (col:Nat),NoNl s->ovr w col s=(col+s.length-w)-(col-w)
 | [],col,_=>by simp [ovr]
 | c::r,col,h=>by
  have hc:c≠10:=h c (by simp)
  have ih:=ovr_no w r (col+1) (fun x hx=>h x (by simp [hx]))
  simp only [ovr,if_neg hc,ih,List.length_cons]
  split <;> omega
theorem lns_no:∀ (s:List UInt8),NoNl s->lns s=0
 | [],_=>rfl
 | c::r,h=>by
  have hc:c≠10:=h c (by simp)
  simp only [lns,if_neg hc,lns_no r (fun x hx=>h x (by simp [hx]))]
theorem colOf_no:∀ (s:List UInt8) (col:Nat),NoNl s->colOf col s=col+s.length
 | [],col,_=>by simp [colOf]
 | c::r,col,h=>by
  have hc:c≠10:=h c (by simp)
  simp only [colOf,if_neg hc,colOf_no r (col+1) (fun x hx=>h x (by simp [hx])),List.length_cons]
  omega
theorem colOf_le:∀ (s:List UInt8) (col:Nat),colOf col s<=col+s.length
 | [],col=>by simp [colOf]
 | c::r,col=>by
  simp only [colOf,List.length_cons]
  split
  ·have:=colOf_le r 0;omega
  ·have:=colOf_le r (col+1);omega
theorem ovr_le (w:Nat):∀ (s:List UInt8) (col:Nat),ovr w col s<=s.length
 | [],col=>by simp [ovr]
 | c::r,col=>by
  simp only [ovr,List.length_cons]
  split
  ·have:=ovr_le w r 0;omega
  ·have:=ovr_le w r (col+1);split <;> omega
theorem lns_le:∀ (s:List UInt8),lns s<=s.length
 | []=>by simp [lns]
 | c::r=>by
  simp only [lns,List.length_cons]
  have:=lns_le r
  split <;> omega
end Go.Proofs.YtddfdmopaeghnadGreatDoor
namespace Go.Proofs.YtddfdmopaeghnadGreatDoor
def best1 (f:List Int->Nat × Nat):List (List Int)->Option (List Int)
 | []=>none
 | u::r=>match best1 f r with
  | none=>some u
  | some v=>if cLess (f v) (f u)=true then some v else some u
theorem best1_app (f:List Int->Nat × Nat):∀ (a b:List (List Int)),best1 f (a++b)=match best1 f a,best1 f b with
  | none,y=>y
  | x,none=>x
  | some u,some v=>if cLess (f v) (f u)=true then some v else some u
 | [],b=>by simp [best1]
 | u::r,b=>by
  simp only [List.cons_append,best1,best1_app f r b]
  cases h1:best1 f r with
  | none =>
   cases h2:best1 f b with
   | none=>rfl
   | some v=>simp
  | some x =>
   cases h2:best1 f b with
   | none =>
    simp only
    split <;> rfl
   | some v =>
    simp only
    by_cases p:cLess (f v) (f x)=true
    ·simp only [if_pos p]
     by_cases q:cLess (f x) (f u)=true
     ·simp only [if_pos q,if_pos p]
      have:cLess (f v) (f u)=true:=by rw [cLess_iff] at *;omega
      rw [if_pos this]
     ·simp only [if_neg q]
    ·simp only [if_neg p]
     by_cases q:cLess (f x) (f u)=true
     ·simp only [if_pos q,if_neg p]
     ·simp only [if_neg q]
      have:¬ cLess (f v) (f u)=true:=by
       rw [Bool.not_eq_true,cLess_no] at *;omega
      rw [if_neg this]
theorem best1_map (f:List Int->Nat × Nat) (g:List Int->List Int):∀ l:List (List Int),best1 f (l.map g)=(best1 (fun u=>f (g u)) l).map g
 | []=>rfl
 | u::r=>by
  simp only [List.map_cons,best1,best1_map f g r]
  cases best1 (fun u=>f (g u)) r with
  | none=>rfl
  | some v =>
   simp only [Option.map_some]
   split <;> rfl
theorem best1_mem {f:List Int->Nat × Nat}:∀ {l:List (List Int)} {v:List Int},best1 f l=some v->v ∈ l
 | [],_,h=>by simp [best1] at h
 | u::r,v,h=>by
  simp only [best1] at h
  split at h
  ·simp at h;simp [h]
  ·rename_i x hx
   split at h
   ·simp at h;subst h;exact List.mem_cons_of_mem _ (best1_mem hx)
   ·simp at h;simp [h]
theorem best1_none {f:List Int->Nat × Nat}:∀ {l:List (List Int)},best1 f l=none->l=[]
 | [],_=>rfl
 | u::r,h=>by
  simp only [best1] at h
  split at h
  ·simp at h
  ·split at h <;> simp at h
theorem best1_some {f:List Int->Nat × Nat} {l:List (List Int)} (h:l≠[]):∃ v,best1 f l=some v/\v ∈ l:=by
 cases hb:best1 f l with
 | none=>exact absurd (best1_none hb) h
 | some v=>exact ⟨v,rfl,best1_mem hb⟩
theorem best1_shift {f g:List Int->Nat × Nat} (c:Nat × Nat):∀ {l:List (List Int)},(∀ u ∈ l,f u=cAdd c (g u))->best1 f l=best1 g l
 | [],_=>rfl
 | u::r,h=>by
  have ih:=best1_shift (l:=r) c (fun v hv=>h v (by simp [hv]))
  simp only [best1,ih]
  cases hb:best1 g r with
  | none=>rfl
  | some v=>simp only [h u (by simp),h v (List.mem_cons_of_mem _ (best1_mem hb)),cLess_add]
theorem best1_least {f:List Int->Nat × Nat}:∀ {l:List (List Int)} {v:List Int},best1 f l=some v->∀ u ∈ l,cLess (f u) (f v)=false
 | [],_,h=>by simp [best1] at h
 | x::r,v,h=>by
  intro u hu
  simp only [best1] at h
  split at h
  ·rename_i hn
   simp at h;subst h
   have:=best1_none hn;subst this
   simp at hu;subst hu;exact cLess_irr _
  ·rename_i y hy
   have ih:=best1_least hy
   split at h
   ·rename_i hl
    simp at h;subst h
    rcases List.mem_cons.1 hu with rfl|hu
    ·rw [cLess_iff] at hl;rw [cLess_no];omega
    ·exact ih u hu
   ·rename_i hl
    simp at h;subst h
    rcases List.mem_cons.1 hu with rfl|hu
    ·exact cLess_irr _
    ·have:=ih u hu
     rw [Bool.not_eq_true,cLess_no] at hl;rw [cLess_no] at this ⊢;omega
theorem best1_first {R:List Int->List Int->Prop} {f:List Int->Nat × Nat}:∀ {l:List (List Int)} {v:List Int},l.Pairwise R->best1 f l=some v->∀ u ∈ l,f u=f v->u=v∨R v u
 | [],_,_,h=>by simp [best1] at h
 | x::r,v,hp,h=>by
  intro u hu he
  obtain ⟨h1,h2⟩:=List.pairwise_cons.1 hp
  simp only [best1] at h
  split at h
  ·rename_i hn
   simp at h;subst h
   have:=best1_none hn;subst this
   simp at hu;exact .inl hu
  ·rename_i y hy
   split at h
   ·rename_i hl
    simp at h;subst h
    rcases List.mem_cons.1 hu with rfl|hu
    ·rw [he,cLess_irr] at hl;cases hl
    ·exact best1_first h2 hy u hu he
   ·simp at h;subst h
    rcases List.mem_cons.1 hu with rfl|hu
    ·exact .inl rfl
    ·exact .inr (h1 u hu)
def textK (K:List (D × Int)) (u:List Int):List UInt8:=match layK K u .empty with
 | .ok (s,_)=>s.data.toList
 | .error _=>[]
theorem toList_app (a b:ByteArray):(a++b).data.toList=a.data.toList++b.data.toList:=by
 simp
theorem layK_acc:∀ (K:List (D × Int)) (ws:List Int) (acc:ByteArray),layK K ws acc=match layK K ws .empty with
  | .error e=>.error e
  | .ok (s,r)=>.ok (acc++s,r)
 | [],ws,acc=>by simp [layK]
 | (x,dp)::K,ws,acc=>by
  simp only [layK]
  cases x.lay dp ws with
  | error e=>rfl
  | ok p =>
   obtain ⟨s,w'⟩:=p
   simp only
   rw [layK_acc K w' (acc++s),layK_acc K w' (.empty++s)]
   cases layK K w' .empty with
   | error e=>rfl
   | ok q =>
    obtain ⟨t,r⟩:=q
    simp [ByteArray.append_assoc]
theorem layK_way:∀ {K:List (D × Int)} {u:List Int},u ∈ waysK K->∃ s,layK K u .empty=.ok (s,[])
 | [],u,h=>by
  simp [waysK] at h;subst h
  exact ⟨_,rfl⟩
 | (x,dp)::K,u,h=>by
  simp only [waysK,List.mem_flatMap,List.mem_map] at h
  obtain ⟨a,ha,b,hb,rfl⟩:=h
  obtain ⟨s,hs⟩:=D.lay_way (dp:=dp) ha
  obtain ⟨t,ht⟩:=layK_way hb
  have h1:=D.lay_more (v:=b) hs
  simp only [layK,h1]
  rw [List.nil_append,layK_acc,ht]
  exact ⟨_,rfl⟩
theorem textK_of {K:List (D × Int)} {u:List Int} {s:ByteArray} {r:List Int} (h:layK K u .empty=.ok (s,r)):textK K u=s.data.toList:=by
 rw [textK,h]
theorem textK_step {K K':List (D × Int)} {u u':List Int} {txt:ByteArray} (h:∀ acc,layK K u acc=layK K' u' (acc++txt)) (hu:u' ∈ waysK K'):textK K u=txt.data.toList++textK K' u':=by
 obtain ⟨s,hs⟩:=layK_way hu
 have h1:=h .empty
 rw [layK_acc K',hs] at h1
 rw [textK_of h1,textK_of hs,toList_app,toList_app]
 simp
def bestU (w:Nat) (K:List (D × Int)) (col:Nat):List Int:=(best1 (fun u=>cst w col (textK K u)) (waysK K)).getD []
def bestC (w:Nat) (K:List (D × Int)) (col:Nat):Nat × Nat:=cst w col (textK K (bestU w K col))
theorem bestU_is (w:Nat) (K:List (D × Int)) (col:Nat):best1 (fun u=>cst w col (textK K u)) (waysK K)=some (bestU w K col):=by
 obtain ⟨v,hv,_⟩:=best1_some (f:=fun u=>cst w col (textK K u)) (waysK_ne K)
 rw [bestU,hv];rfl
theorem bestU_mem (w:Nat) (K:List (D × Int)) (col:Nat):bestU w K col ∈ waysK K:=best1_mem (bestU_is w K col)
theorem best_end (w col:Nat):bestU w [] col=[]/\bestC w [] col=(0,0):=by
 have h:bestU w [] col=[]:=by
  have:=bestU_mem w [] col
  simpa [waysK] using this
 refine ⟨h, ?_⟩
 rw [bestC,h]
 rfl
theorem best_step {l:List Nd} {i i':Nat} {K K':List (D × Int)} {txt:ByteArray} (h:StepTo l i K txt i' K') (hw:waysK K=waysK K') (w col:Nat) :
  bestU w K col=bestU w K' (colOf col txt.data.toList)/\bestC w K col=cAdd (cst w col txt.data.toList) (bestC w K' (colOf col txt.data.toList)):=by
 have key:∀ u ∈ waysK K',cst w col (textK K u)=cAdd (cst w col txt.data.toList) (cst w (colOf col txt.data.toList) (textK K' u)):=fun u hu=>by
  rw [textK_step (h.2.2.2 u) hu,cst_app]
 have h1:bestU w K col=bestU w K' (colOf col txt.data.toList):=by
  have:=bestU_is w K col
  rw [hw,best1_shift _ key,bestU_is] at this
  exact (Option.some.inj this).symm
 refine ⟨h1, ?_⟩
 rw [bestC,h1,key _ (bestU_mem _ _ _)]
 rfl
theorem best_pick {l:List Nd} {i0 i1:Nat} {K K0 K1:List (D × Int)} {t0 t1:ByteArray} {ok0:Bool} (hp:PartTo l K ok0 i0 i1 K0 K1)
  (h0:ok0=true->∀ ws acc,layK K (0::ws) acc=layK K0 ws (acc++t0)) (h1:∀ ws acc,layK K (1::ws) acc=layK K1 ws (acc++t1)) (w col:Nat) :
  let c0:=cAdd (cst w col t0.data.toList) (bestC w K0 (colOf col t0.data.toList))
  let c1:=cAdd (cst w col t1.data.toList) (bestC w K1 (colOf col t1.data.toList))
  (ok0=true/\cLess c1 c0=false->bestU w K col=0::bestU w K0 (colOf col t0.data.toList)/\bestC w K col=c0) /\
  (ok0=false∨cLess c1 c0=true->bestU w K col=1::bestU w K1 (colOf col t1.data.toList)/\bestC w K col=c1):=by
 intro c0 c1
 have k1:∀ u ∈ waysK K1,cst w col (textK K (1::u))=cAdd (cst w col t1.data.toList) (cst w (colOf col t1.data.toList) (textK K1 u)):=fun u hu=>by
  rw [textK_step (h1 u) hu,cst_app]
 have b1:best1 (fun u=>cst w col (textK K u)) ((waysK K1).map (1::·))=some (1::bestU w K1 (colOf col t1.data.toList)):=by
  rw [best1_map,best1_shift _ k1,bestU_is];rfl
 have e1:cst w col (textK K (1::bestU w K1 (colOf col t1.data.toList)))=c1:=k1 _ (bestU_mem _ _ _)
 have hb:=bestU_is w K col
 rw [hp.2.2.2.2,best1_app,b1] at hb
 cases ok0 with
 | false =>
  simp only [Bool.false_eq_true,if_false,best1] at hb
  have hb':=(Option.some.inj hb).symm
  refine ⟨fun h=>(by cases h.1),fun _=>⟨hb', ?_⟩⟩
  rw [bestC,hb',e1]
 | true =>
  have k0:∀ u ∈ waysK K0,cst w col (textK K (0::u))=cAdd (cst w col t0.data.toList) (cst w (colOf col t0.data.toList) (textK K0 u)):=fun u hu=>by
   rw [textK_step (h0 rfl u) hu,cst_app]
  have b0:best1 (fun u=>cst w col (textK K u)) ((waysK K0).map (0::·))=some (0::bestU w K0 (colOf col t0.data.toList)):=by
   rw [best1_map,best1_shift _ k0,bestU_is];rfl
  have e0:cst w col (textK K (0::bestU w K0 (colOf col t0.data.toList)))=c0:=k0 _ (bestU_mem _ _ _)
  simp only [if_true,b0,e0,e1] at hb
  refine ⟨fun h=>?_,fun h=>?_⟩
  ·rw [h.2] at hb
   simp only [Bool.false_eq_true,if_false] at hb
   have hb':=(Option.some.inj hb).symm
   exact ⟨hb',by rw [bestC,hb',e0]⟩
  ·have h':cLess c1 c0=true:=by
    rcases h with h|h
    ·cases h
    ·exact h
   rw [h'] at hb
   simp only [if_true] at hb
   have hb':=(Option.some.inj hb).symm
   exact ⟨hb',by rw [bestC,hb',e1]⟩
end Go.Proofs.YtddfdmopaeghnadGreatDoor
namespace Go.Proofs.YtddfdmopaeghnadGreatDoor
open Go.RowKit
theorem repeat_blanks (n:Nat):(⟨(Lib.repeatL (⟨#[32]⟩:ByteArray).data.toList n).toArray⟩:ByteArray)=blanksB n:=by
 have h:Lib.repeatL [32] n=List.replicate n (32:UInt8):=by
  induction n with
  | zero=>rfl
  | succ n ih=>simp [Lib.repeatL,List.replicate_succ] at ih ⊢;try exact ih
 show (⟨(Lib.repeatL [32] n).toArray⟩:ByteArray)=_
 rw [h];rfl
theorem rq32 {P:Prop} (h:P:=by
 obtain ⟨gn,gd,ge,gf,gi,cf,ci,hp⟩:=hp
 obtain ⟨b,off,op,t',n',rfl,hb,hnd',hts,d1,d2,d3⟩:=hl.node (Below.refl _ _) hk
 rw [hnd] at hnd'
 cases hnd'
 have h400:=hd.len
 have e0:=hp.c0
 have e1:=hp.c1
 have x1:=hp.nx k hk
 have g1:=hp.lp
 have g2:=hp.ln
 generalize nextAt l k=Nx at *
 have k6:(k:Int)<(l.length:Int):=by omega
 clear hp hl hd hnd
 go_enter Tryz.func159,Tryz.ntmps159
 go_wp2
 go_quiet (fail)
 go_wp2
 go_ret3
 exact ⟨rfl,bel_⟩):P:=h
theorem piece_word {l:List Nd} {x:D} (hd:Doc l x) {gp:Nat} {A:Option Addr} {c k:Nat} {t:ByteArray} {n:Int} (w:World) (hp:IsPlan w gp A c l) (hl:Nds w w.heap.size A l) (hk:k<l.length) (hnd:l[k]=⟨1,t,n⟩) :
  Calls Tryz.prog 159 #[.pointer (some ⟨gp,0,none⟩),.int .i64 k] w (Ret w (.tuple #[.string t,.int .i64 (nextAt l k:Nat),.bool false])):=by
 exact rq32
theorem piece_zero {l:List Nd} {x:D} (hd:Doc l x) {gp:Nat} {A:Option Addr} {c k:Nat} {t:ByteArray} {n:Int} (w:World) (hp:IsPlan w gp A c l) (hl:Nds w w.heap.size A l) (hk:k<l.length) (hnd:l[k]=⟨5,t,n⟩) :
  Calls Tryz.prog 159 #[.pointer (some ⟨gp,0,none⟩),.int .i64 k] w (Ret w (.tuple #[.string .empty,.int .i64 (nextAt l k:Nat),.bool false])):=by
 exact rq32
theorem rq33 {P:Prop} (h:P:=by
 obtain ⟨gn,gd,ge,gf,gi,cf,ci,hp⟩:=hp
 obtain ⟨b,off,op',t',n',rfl,hb,hnd',hts,d1,d2,d3⟩:=hl.node (Below.refl _ _) hk
 rw [hnd] at hnd'
 cases hnd'
 have h400:=hd.len
 have e0:=hp.c0
 have g1:=hp.lp
 have k6:(k:Int)<(l.length:Int):=by omega
 clear hp hl hd hnd
 rcases ho with rfl|rfl
 all_goals
  go_enter Tryz.func159,Tryz.ntmps159
  go_wp2
  go_ret3
  exact ⟨rfl,bel_⟩):P:=h
theorem piece_part {l:List Nd} {x:D} (hd:Doc l x) {gp:Nat} {A:Option Addr} {c k:Nat} {op n:Int} {t:ByteArray} (w:World) (hp:IsPlan w gp A c l) (hl:Nds w w.heap.size A l) (hk:k<l.length) (hnd:l[k]=⟨op,t,n⟩) (ho:op=6∨op=7) :
  Calls Tryz.prog 159 #[.pointer (some ⟨gp,0,none⟩),.int .i64 k] w (Ret w (.tuple #[.string .empty,.int .i64 ((k+1:Nat)),.bool false])):=by
 exact rq33
theorem piece_choice {l:List Nd} {x:D} (hd:Doc l x) {gp:Nat} {A:Option Addr} {c k:Nat} {op n:Int} {t:ByteArray} (w:World) (hp:IsPlan w gp A c l) (hl:Nds w w.heap.size A l) (hk:k<l.length) (hnd:l[k]=⟨op,t,n⟩) (ho:op=8∨op=9) :
  Calls Tryz.prog 159 #[.pointer (some ⟨gp,0,none⟩),.int .i64 k] w (Ret w (.tuple #[.string .empty,.int .i64 (k:Nat),.bool true])):=by
 exact rq33
theorem rq27 {P:Prop} (h:P:=by
 rw [← hwa]
 have hBa:Below w.heap.size w wa:=by rw [hwa];exact (Below.refl _ _).alloc (Nat.le_refl _) _
 have a1:=(hBa.cell (p:=⟨gp,1,none⟩) g1).trans e1
 have a2:=(hBa.cell (p:=⟨gp,2,none⟩) g1).trans e2
 have b1:=(hBa.cell (p:=⟨gn,k,none⟩) g2).trans x1
 have b2:=(hBa.cell (p:=⟨gd,k,none⟩) g3).trans x2
 have g1a:=Nat.lt_of_lt_of_le g1 hBa.size
 have g2a:=Nat.lt_of_lt_of_le g2 hBa.size
 have g3a:=Nat.lt_of_lt_of_le g3 hBa.size
 clear hwa e0 e1 e2 x1 x2 d1 d2 d3
 have hcat:∀ w',(Op.stringOp .add ⟨#[10]⟩ BL).run Tryz.prog w'=.ok (.string (⟨#[10]⟩++BL)) w':=fun w'=>run_string_add_sum w' ⟨#[10]⟩ BL (by show 1+BL.size<=_;omega)
 go_region_held3 (fun w'=>w'.cell? ⟨gp,1,none⟩=some (.slice (some ⟨gn,0,none⟩) l.length l.length)/\w'.cell? ⟨gp,2,none⟩=some (.slice (some ⟨gd,0,none⟩) l.length l.length)/\w'.cell? ⟨gn,k,none⟩=some (.int .i64 (Nx:Nat))/\w'.cell? ⟨gd,k,none⟩=some (.int .i64 (dn:Nat)))
  (first|exact ⟨a1,a2,b1,b2⟩|exact ⟨(hBj.cell (p:=⟨gp,1,none⟩) g1a).trans a1,(hBj.cell (p:=⟨gp,2,none⟩) g1a).trans a2,(hBj.cell (p:=⟨gn,k,none⟩) g2a).trans b1,(hBj.cell (p:=⟨gd,k,none⟩) g3a).trans b2⟩)
  (first|(go_at_call 193;refine (HR.out _).mono ?_;rintro e w3 ⟨rfl,hBj⟩))
 go_wp2
 go_ret3
 exact ⟨rfl,hBa.trans ((past_drew hBj).mono hBa.size)⟩):P:=h
theorem piece_line {l:List Nd} {x:D} (hd:Doc l x) {gp:Nat} {A:Option Addr} {c k:Nat} {op n:Int} {t:ByteArray} (w:World) (hp:IsPlan w gp A c l) (hl:Nds w w.heap.size A l) (hk:k<l.length) (hnd:l[k]=⟨op,t,n⟩) (ho:op=2∨op=3∨op=4) :
  Calls Tryz.prog 159 #[.pointer (some ⟨gp,0,none⟩),.int .i64 k] w (Ret w (.tuple #[.string (⟨#[10]⟩++blanksB (deepAt l k).toNat),.int .i64 (nextAt l k:Nat),.bool false])):=by
 obtain ⟨gn,gd,ge,gf,gi,cf,ci,hp⟩:=hp
 obtain ⟨b,off,op',t',n',rfl,hb,hnd',hts,d1,d2,d3⟩:=hl.node (Below.refl _ _) hk
 rw [hnd] at hnd'
 cases hnd'
 have h400:=hd.len
 obtain ⟨hd0,hd1⟩:=hd.deep_bd k hk
 obtain ⟨dn,hdn⟩:∃ dn:Nat,deepAt l k=(dn:Int):=⟨(deepAt l k).toNat,by omega⟩
 have x2:=hp.dp k hk
 rw [hdn] at x2 hd1 ⊢
 rw [Int.toNat_natCast]
 have e0:=hp.c0
 have e1:=hp.c1
 have e2:=hp.c2
 have x1:=hp.nx k hk
 have g1:=hp.lp
 have g2:=hp.ln
 have g3:=hp.ld
 generalize nextAt l k=Nx at *
 have k6:(k:Int)<(l.length:Int):=by omega
 have hdn2:dn<=3200:=by omega
 have HR:=hd_ (fun w'=>Tryz.strings_Repeat ⟨#[32]⟩ dn w' (by omega) (by show 1*dn<=_;omega))
 rw [repeat_blanks] at HR
 clear hp hl hd hnd hdn hd0 hd1
 have hbz:(blanksB dn).size=dn:=by simp [blanksB,ByteArray.size]
 have hbz2:(blanksB dn).size<=3200:=by omega
 clear hbz
 generalize blanksB dn=BL at *
 rcases ho with rfl|rfl|rfl
 ·go_enter Tryz.func159,Tryz.ntmps159
  go_wp2
  obtain ⟨wa,hwa⟩:∃ wa,wa=w.alloc (.cells #[.int .i64 2,.string t,.int .i64 n] 190):=⟨_,rfl⟩
  exact rq27
 ·go_enter Tryz.func159,Tryz.ntmps159
  go_wp2
  obtain ⟨wa,hwa⟩:∃ wa,wa=w.alloc (.cells #[.int .i64 3,.string t,.int .i64 n] 190):=⟨_,rfl⟩
  exact rq27
 ·go_enter Tryz.func159,Tryz.ntmps159
  go_wp2
  obtain ⟨wa,hwa⟩:∃ wa,wa=w.alloc (.cells #[.int .i64 4,.string t,.int .i64 n] 190):=⟨_,rfl⟩
  exact rq27
theorem choose_either {l:List Nd} {x:D} (hd:Doc l x) {gp:Nat} {A:Option Addr} {c k:Nat} {t:ByteArray} {n:Int} (w:World) (ch:Int) (hch:ch=0∨ch=1) (hp:IsPlan w gp A c l) (hl:Nds w w.heap.size A l) (hk:k<l.length) (hnd:l[k]=⟨9,t,n⟩) :
  Calls Tryz.prog 162 #[.pointer (some ⟨gp,0,none⟩),.int .i64 k,.int .i64 ch] w (Ret w (.tuple #[.string .empty,.int .i64 ((if ch=0 then k+1 else endAt l (k+1):Nat)),.bool true])):=by
 obtain ⟨gn,gd,ge,gf,gi,cf,ci,hp⟩:=hp
 obtain ⟨b,off,op',t',n',rfl,hb,hnd',hts,d1,d2,d3⟩:=hl.node (Below.refl _ _) hk
 rw [hnd] at hnd'
 cases hnd'
 have h400:=hd.len
 have hp2:parts l[k].op=2:=by rw [hnd];rfl
 have hkl:k+1<l.length:=by have:=hd.plan_bin hk hp2;omega
 have e0:=hp.c0
 have e3:=hp.c3
 have x3:=hp.en (k+1) hkl
 have g1:=hp.lp
 have g2:=hp.le
 generalize endAt l (k+1)=E at *
 have k6:(k:Int)<(l.length:Int):=by omega
 have k5:(k:Int)+1<(l.length:Int):=by omega
 clear hp hl hd hnd hp2
 rcases hch with rfl|rfl
 ·rw [if_pos rfl]
  go_enter Tryz.func162,Tryz.ntmps162
  go_wp2
  go_ret3
  exact ⟨rfl,bel_⟩
 ·rw [if_neg (by decide)]
  have k1:IntKind.i64.wrap ((k:Int)+1)=(k:Int)+1:=IntWalk.i64_in _ (by omega)
  have k2:(0:Int)<=(k:Int)+1:=by omega
  have k3:((k:Int)+1).toNat=k+1:=by omega
  go_enter Tryz.func162,Tryz.ntmps162
  go_wp2
  go_quiet (fail)
  go_wp2
  go_ret3
  exact ⟨rfl,bel_⟩
theorem choose_flat {l:List Nd} {x:D} (hd:Doc l x) {gp:Nat} {A:Option Addr} {c k:Nat} {t:ByteArray} {n:Int} (w:World) (hp:IsPlan w gp A c l) (hl:Nds w w.heap.size A l) (hk:k<l.length) (hnd:l[k]=⟨8,t,n⟩) :
  Calls Tryz.prog 162 #[.pointer (some ⟨gp,0,none⟩),.int .i64 k,.int .i64 0] w (Ret w (.tuple #[.string (lineAt l (k+1)).1,.int .i64 (nextAt l k:Nat),.bool (lineAt l (k+1)).2])):=by
 obtain ⟨gn,gd,ge,gf,gi,cf,ci,hp⟩:=hp
 obtain ⟨b,off,op',t',n',rfl,hb,hnd',hts,d1,d2,d3⟩:=hl.node (Below.refl _ _) hk
 rw [hnd] at hnd'
 cases hnd'
 have h400:=hd.len
 have hp2:parts l[k].op=1:=by rw [hnd];rfl
 have hkl:k+1<l.length:=(hd.plan_un hk hp2).1
 have e0:=hp.c0
 have e1:=hp.c1
 have e4:=hp.c4
 have e5:=hp.c5
 have x1:=hp.nx k hk
 have x4:=hp.fl (k+1) hkl
 have x5:=hp.ib (k+1) hkl
 have g1:=hp.lp
 have g2:=hp.ln
 have g4:=hp.lf
 have g5:=hp.li
 generalize lineAt l (k+1)=L at *
 generalize nextAt l k=Nx at *
 have k6:(k:Int)<(l.length:Int):=by omega
 have k5:(k:Int)+1<(l.length:Int):=by omega
 have k1:IntKind.i64.wrap ((k:Int)+1)=(k:Int)+1:=IntWalk.i64_in _ (by omega)
 have k2:(0:Int)<=(k:Int)+1:=by omega
 have k3:((k:Int)+1).toNat=k+1:=by omega
 clear hp hl hd hnd hp2
 go_enter Tryz.func162,Tryz.ntmps162
 go_wp2
 go_quiet (fail)
 go_wp2
 go_ret3
 exact ⟨rfl,bel_⟩
theorem choose_lines {l:List Nd} {x:D} (hd:Doc l x) {gp:Nat} {A:Option Addr} {c k:Nat} {t:ByteArray} {n:Int} (w:World) (hp:IsPlan w gp A c l) (hl:Nds w w.heap.size A l) (hk:k<l.length) (hnd:l[k]=⟨8,t,n⟩) :
  Calls Tryz.prog 162 #[.pointer (some ⟨gp,0,none⟩),.int .i64 k,.int .i64 1] w (Ret w (.tuple #[.string .empty,.int .i64 ((k+1:Nat)),.bool true])):=by
 obtain ⟨gn,gd,ge,gf,gi,cf,ci,hp⟩:=hp
 obtain ⟨b,off,op',t',n',rfl,hb,hnd',hts,d1,d2,d3⟩:=hl.node (Below.refl _ _) hk
 rw [hnd] at hnd'
 cases hnd'
 have h400:=hd.len
 have e0:=hp.c0
 have g1:=hp.lp
 have k6:(k:Int)<(l.length:Int):=by omega
 clear hp hl hd hnd
 go_enter Tryz.func162,Tryz.ntmps162
 go_wp2
 go_ret3
 exact ⟨rfl,bel_⟩
def PTxt (t:ByteArray):Prop:=NoNl t.data.toList∨∃ r,NoNl r/\t=⟨(10::r).toArray⟩
theorem blanks_no (n:Nat):NoNl (blanksB n).data.toList:=by
 intro c hc
 simp [blanksB] at hc
 rw [hc.2];decide
theorem ptxt_line (n:Nat):PTxt (⟨#[10]⟩++blanksB n):=by
 refine .inr ⟨(blanksB n).data.toList,blanks_no n, ?_⟩
 apply ByteArray.ext
 apply Array.ext'
 simp
theorem ptxt_empty:PTxt .empty:=.inl (by intro c hc;simp at hc)
theorem step_walk {l:List Nd} {i i':Nat} {K K1 K2:List (D × Int)} {txt:ByteArray} (h1:StepTo l i K txt i' K1) (h2:WalkTo l K i' K2):StepTo l i K txt i' K1/\waysK K=waysK K1:=by
 have:=h1.1.uniq h2.1
 subst this
 exact ⟨h1,h2.2.2⟩
theorem best_go {l:List Nd} {x:D} (hd:Doc l x) {gp:Nat} {A:Option Addr} {c i:Nat} {K:List (D × Int)} (hr:Rep l i K) (hi:i<l.length) (ho:l[i].op≠8/\l[i].op≠9) :
  ∃ (txt:ByteArray) (nx:Nat) (K':List (D × Int)),StepTo l i K txt nx K'/\waysK K=waysK K'/\PTxt txt/\∀ w,IsPlan w gp A c l->Nds w w.heap.size A l->Calls Tryz.prog 159 #[.pointer (some ⟨gp,0,none⟩),.int .i64 i] w (Ret w (.tuple #[.string txt,.int .i64 (nx:Nat),.bool false])):=by
 obtain ⟨op,t,n,hnd⟩:∃ op t n,l[i]=Nd.mk op t n:=⟨_,_,_,rfl⟩
 rcases hd.ops hi hnd with rfl|rfl|rfl|rfl|rfl|rfl|rfl|rfl|rfl
 ·obtain ⟨K',h⟩:=walk_leaf hd hr hi (by rw [hnd];rfl)
  obtain ⟨K1,h1⟩:=step_word hd hr hi hnd
  obtain ⟨g1,g2⟩:=step_walk h1 h
  refine ⟨_,_,K1,g1,g2,.inl ?_,fun w hp hl=>piece_word hd w hp hl hi hnd⟩
  have:=oneF_text (hd.one l[i] (List.getElem_mem hi)) (by rw [hnd])
  rw [hnd] at this
  exact this
 ·obtain ⟨K',h⟩:=walk_leaf hd hr hi (by rw [hnd];rfl)
  obtain ⟨K1,h1⟩:=step_line hd hr hi hnd (.inl rfl)
  obtain ⟨g1,g2⟩:=step_walk h1 h
  exact ⟨_,_,K1,g1,g2,ptxt_line _,fun w hp hl=>piece_line hd w hp hl hi hnd (.inl rfl)⟩
 ·obtain ⟨K',h⟩:=walk_leaf hd hr hi (by rw [hnd];rfl)
  obtain ⟨K1,h1⟩:=step_line hd hr hi hnd (.inr (.inl rfl))
  obtain ⟨g1,g2⟩:=step_walk h1 h
  exact ⟨_,_,K1,g1,g2,ptxt_line _,fun w hp hl=>piece_line hd w hp hl hi hnd (.inr (.inl rfl))⟩
 ·obtain ⟨K',h⟩:=walk_leaf hd hr hi (by rw [hnd];rfl)
  obtain ⟨K1,h1⟩:=step_line hd hr hi hnd (.inr (.inr rfl))
  obtain ⟨g1,g2⟩:=step_walk h1 h
  exact ⟨_,_,K1,g1,g2,ptxt_line _,fun w hp hl=>piece_line hd w hp hl hi hnd (.inr (.inr rfl))⟩
 ·obtain ⟨K',h⟩:=walk_leaf hd hr hi (by rw [hnd];rfl)
  obtain ⟨K1,h1⟩:=step_zero hd hr hi hnd
  obtain ⟨g1,g2⟩:=step_walk h1 h
  exact ⟨_,_,K1,g1,g2,ptxt_empty,fun w hp hl=>piece_zero hd w hp hl hi hnd⟩
 ·obtain ⟨K',h⟩:=walk_both hd hr hi (by rw [hnd])
  obtain ⟨K1,h1⟩:=step_both hd hr hi hnd
  obtain ⟨g1,g2⟩:=step_walk h1 h
  exact ⟨_,_,K1,g1,g2,ptxt_empty,fun w hp hl=>piece_part hd w hp hl hi hnd (.inl rfl)⟩
 ·obtain ⟨K',h⟩:=walk_deep hd hr hi (by rw [hnd])
  obtain ⟨K1,h1⟩:=step_deep hd hr hi hnd
  obtain ⟨g1,g2⟩:=step_walk h1 h
  exact ⟨_,_,K1,g1,g2,ptxt_empty,fun w hp hl=>piece_part hd w hp hl hi hnd (.inr rfl)⟩
 ·exact absurd (by rw [hnd]) ho.1
 ·exact absurd (by rw [hnd]) ho.2
def TakeTo (K:List (D × Int)) (c:Int) (t:ByteArray) (K':List (D × Int)):Prop:=NoNl t.data.toList/\t.size+3300*szK K'<=3300*szK K/\∀ ws acc,layK K (c::ws) acc=layK K' ws (acc++t)
theorem take_pick {l:List Nd} {i i':Nat} {K K1 K2:List (D × Int)} {c:Int} {t:ByteArray} (ht:NoNl t.data.toList) (h:PickTo l i K c t i' K1) (hr:Rep l i' K2):TakeTo K c t K2:=by
 have:=h.1.uniq hr
 subst this
 exact ⟨ht,h.2.2⟩
theorem no_empty:NoNl ByteArray.empty.data.toList:=by intro c hc;simp at hc
theorem best_ask {l:List Nd} {x:D} (hd:Doc l x) {gp:Nat} {A:Option Addr} {c i:Nat} {K:List (D × Int)} (hr:Rep l i K) (hi:i<l.length) (ho:l[i].op=8∨l[i].op=9) :
  ∃ (t0:ByteArray) (ok0:Bool) (i0 i1:Nat) (K0 K1:List (D × Int)),PartTo l K ok0 i0 i1 K0 K1/\(ok0=true->TakeTo K 0 t0 K0)/\TakeTo K 1 .empty K1 /\
   (∀ w,IsPlan w gp A c l->Nds w w.heap.size A l->Calls Tryz.prog 159 #[.pointer (some ⟨gp,0,none⟩),.int .i64 i] w (Ret w (.tuple #[.string .empty,.int .i64 (i:Nat),.bool true]))) /\
   (∀ w,IsPlan w gp A c l->Nds w w.heap.size A l->Calls Tryz.prog 162 #[.pointer (some ⟨gp,0,none⟩),.int .i64 i,.int .i64 0] w (Ret w (.tuple #[.string t0,.int .i64 (i0:Nat),.bool ok0]))) /\
   (∀ w,IsPlan w gp A c l->Nds w w.heap.size A l->Calls Tryz.prog 162 #[.pointer (some ⟨gp,0,none⟩),.int .i64 i,.int .i64 1] w (Ret w (.tuple #[.string .empty,.int .i64 (i1:Nat),.bool true]))):=by
 obtain ⟨op,t,n,hnd⟩:∃ op t n,l[i]=Nd.mk op t n:=⟨_,_,_,rfl⟩
 rw [hnd] at ho
 rcases ho with h8|h9
 ·simp only at h8
  subst h8
  obtain ⟨K0,K1,h⟩:=part_group hd hr hi (by rw [hnd])
  have he:(lineAt l (i+1)).2=(docAt l (i+1)).flat.isSome:=by
   rw [lineAt]
   cases (docAt l (i+1)).flat <;> rfl
  obtain ⟨K3,h3⟩:=pick_lines hd hr hi hnd
  refine ⟨(lineAt l (i+1)).1,(docAt l (i+1)).flat.isSome,nextAt l i,i+1,K0,K1,h,fun hok=>?_,take_pick no_empty h3 h.2.1,fun w hp hl=>piece_choice hd w hp hl hi hnd (.inl rfl),fun w hp hl=>?_,fun w hp hl=>choose_lines hd w hp hl hi hnd⟩
  ·cases hfl:(docAt l (i+1)).flat with
   | none=>rw [hfl] at hok;cases hok
   | some s =>
    obtain ⟨K2,h2⟩:=pick_flat hd hr hi hnd hfl
    have hls:(lineAt l (i+1)).1=s:=by rw [lineAt,hfl];rfl
    rw [hls]
    have hlt:i+1<l.length:=(hd.plan_un hi (by rw [hnd];rfl)).1
    exact take_pick (D.flat_no (hd.good_at hlt) hfl) h2 h.1
  ·rw [← he]
   exact choose_flat hd w hp hl hi hnd
 ·simp only at h9
  subst h9
  obtain ⟨K0,K1,h⟩:=part_either hd hr hi (by rw [hnd])
  obtain ⟨K2,h2⟩:=pick_either hd hr hi hnd (c:=0) (.inl rfl)
  obtain ⟨K3,h3⟩:=pick_either hd hr hi hnd (c:=1) (.inr rfl)
  exact ⟨.empty,true,i+1,endAt l (i+1),K0,K1,h,fun _=>take_pick no_empty h2 h.1,take_pick no_empty h3 h.2.1,fun w hp hl=>piece_choice hd w hp hl hi hnd (.inr rfl),fun w hp hl=>choose_either hd w 0 (.inl rfl) hp hl hi hnd,fun w hp hl=>choose_either hd w 1 (.inr rfl) hp hl hi hnd⟩
end Go.Proofs.YtddfdmopaeghnadGreatDoor
namespace Go.Proofs.YtddfdmopaeghnadGreatDoor
open Go.RowKit Go.Maps Go.ChangeMaps
section
variable {P:Program} {k:TypeId} {w w':World} {b:Nat}
def MapF (P:Program) (k:TypeId) (f:Value->Option Value) (b:Nat) (w:World):Prop :=
 ∃ es clock,w.heap[b]?=some (.map es clock)/\(∀ e ∈ es.toList,(∃ l,keyOf P k e.key=some l)/\f e.key=some e.val)/\(∀ key v,f key=some v->∃ e ∈ es.toList,e.key=key)/\(es.toList.map (·.key)).Pairwise (·≠·)
theorem keys_set {l:List MapEntry} {j:Nat} {e:MapEntry} (h:l[j]?=some e):(l.map (·.key)).set j e.key=l.map (·.key):=by
 refine List.ext_getElem (by simp) (fun i h1 h2=>?_)
 rw [List.getElem_set]
 split
 ·rename_i hij
  subst hij
  have hj:j<l.length:=(List.getElem?_eq_some_iff.1 h).1
  rw [List.getElem?_eq_getElem hj] at h
  simp [Option.some.inj h]
 ·rfl
theorem keys_once {l:List MapEntry} (h:(l.map (·.key)).Pairwise (·≠·)) {i j:Nat} {a b:MapEntry} (hi:l[i]?=some a) (hj:l[j]?=some b) (hk:a.key=b.key):i=j:=by
 have hil:=(List.getElem?_eq_some_iff.1 hi)
 have hjl:=(List.getElem?_eq_some_iff.1 hj)
 obtain ⟨hi1,hi2⟩:=hil
 obtain ⟨hj1,hj2⟩:=hjl
 have hpw:=List.pairwise_iff_getElem.1 h
 rcases Nat.lt_trichotomy i j with hlt|he|hlt
 ·have:=hpw i j (by simpa using hi1) (by simpa using hj1) hlt
  simp only [List.getElem_map] at this
  rw [hi2,hj2] at this
  exact absurd hk this
 ·exact he
 ·have:=hpw j i (by simpa using hj1) (by simpa using hi1) hlt
  simp only [List.getElem_map] at this
  rw [hi2,hj2] at this
  exact absurd hk.symm this
theorem MapF.made (w:World):MapF P k (fun _=>none) w.heap.size (w.alloc (.map #[] 0)) :=
 ⟨#[],0,(MapKept.heap_alloc w _).1,by simp,by simp,by simp⟩
theorem MapF.lt {f:Value->Option Value} (h:MapF P k f b w):b<w.heap.size:=by
 obtain ⟨es,clock,hb,_⟩:=h
 exact (Array.getElem?_eq_some_iff.1 hb).1
theorem MapF.of_block {f:Value->Option Value} (h:MapF P k f b w) (hb:w'.heap[b]?=w.heap[b]?):MapF P k f b w':=by
 obtain ⟨es,clock,h1,h2⟩:=h
 exact ⟨es,clock,hb.trans h1,h2⟩
theorem MapF.kept {f:Value->Option Value} {row:Option Nat} (h:MapF P k f b w) (hg:w.grownBy w' row) (hne:some b≠row):MapF P k f b w':=h.of_block (hg.block b h.lt hne)
theorem MapF.below {f:Value->Option Value} (h:MapF P k f b w) (hb:Below w.heap.size w w'):MapF P k f b w':=h.of_block (hb.block b h.lt)
theorem rq31 {P:Prop} (h:P:=by
 obtain ⟨es,clock,hb,h1,h2,h3⟩:=h
 rcases K.find w hkey es.toList (fun e he=>(h1 e he).1) with ⟨hf,hn⟩|⟨j,e0,hf,hj,hk0⟩
 ·have hno:f key=none:=by
   cases hfk:f key with
   | none=>rfl
   | some v =>
    obtain ⟨e,he,hek⟩:=h2 key v hfk
    exact absurd hek (hn e he)
  rw [hno]
  simp [Instr.lookup,run_underlying ht,MapKept.run_getObj_map hb,K.check w _ hkey,hf,hz,Result.andThen]
 ·have hm:=List.mem_of_getElem? hj
  have hv:=(h1 e0 hm).2
  rw [hk0] at hv
  rw [hv]
  simp [Instr.lookup,run_underlying ht,MapKept.run_getObj_map hb,K.check w _ hkey,hf,Result.andThen]):P:=h
theorem MapF.look {f:Value->Option Value} (h:MapF P k f b w) (K:Keyed P k) {t e:TypeId} (ht:P.underlying t=some (.map k e)) {z:Value} (hz:(zeroValue e).run P w=.ok z w) {key:Value} {kl:Lit} (hkey:keyOf P k key=some kl) :
  (Instr.lookup t (.map (some b)) key true).run P w=.ok (.tuple #[(f key).getD z,.bool (f key).isSome]) w:=by
 exact rq31
theorem MapF.get {f:Value->Option Value} (h:MapF P k f b w) (K:Keyed P k) {t e:TypeId} (ht:P.underlying t=some (.map k e)) {z:Value} (hz:(zeroValue e).run P w=.ok z w) {key:Value} {kl:Lit} (hkey:keyOf P k key=some kl) :
  (Instr.lookup t (.map (some b)) key false).run P w=.ok ((f key).getD z) w:=by
 exact rq31
open Classical in
noncomputable def putF (f:Value->Option Value) (key val:Value):Value->Option Value:=fun x=>if x=key then some val else f x
theorem putF_same (f:Value->Option Value) (key val:Value):putF f key val key=some val:=by simp [putF]
theorem putF_other (f:Value->Option Value) {key x:Value} (val:Value) (h:x≠key):putF f key val x=f x:=by simp [putF,h]
theorem putF_some {f:Value->Option Value} {key val x v:Value} (h:putF f key val x=some v):(x=key/\v=val)∨f x=some v:=by
 unfold putF at h
 split at h
 ·rename_i hx
  exact .inl ⟨hx,(Option.some.inj h).symm⟩
 ·exact .inr h
theorem MapF.store {f:Value->Option Value} (h:MapF P k f b w) (K:Keyed P k) {t e:TypeId} (ht:P.underlying t=some (.map k e)) {key:Value} {kl:Lit} (hkey:keyOf P k key=some kl) (val:Value) :
  ∃ o,∀ W:World,W.heap[b]?=w.heap[b]?->(Instr.mapUpdate t (.map (some b)) key val).run P W=.ok () (setBlock W b o)/\MapF P k (putF f key val) b (setBlock W b o)/\W.grownBy (setBlock W b o) (some b):=by
 obtain ⟨es,clock,hb0,h1,h2,h3⟩:=h
 have grown:∀ (W:World) o,W.heap[b]?=some (.map es clock)->W.grownBy (setBlock W b o) (some b):=fun W o hb=>⟨rfl,rfl,rfl,by simp [setBlock],fun i _ hi=>heap_setBlock_other hb _ (fun e=>hi (by rw [e]))⟩
 have same:(∀ W:World,(Instr.findKey k key es.toList).run P W=.ok none W)/\(∀ e ∈ es.toList,e.key≠key)∨∃ j e,(∀ W:World,(Instr.findKey k key es.toList).run P W=.ok (some (j,e.val)) W)/\es.toList[j]?=some e/\e.key=key:=by
  rcases K.find w hkey es.toList (fun e he=>(h1 e he).1) with ⟨hf,hn⟩|⟨j,e0,hf,hj,hk0⟩
  ·refine .inl ⟨fun W=>?_,hn⟩
   rcases K.find W hkey es.toList (fun e he=>(h1 e he).1) with ⟨hf',_⟩|⟨j,e0,_,hj,hk0⟩
   ·exact hf'
   ·exact absurd hk0 (hn e0 (List.mem_of_getElem? hj))
  ·refine .inr ⟨j,e0,fun W=>?_,hj,hk0⟩
   rcases K.find W hkey es.toList (fun e he=>(h1 e he).1) with ⟨_,hn'⟩|⟨j',e0',hf',hj',hk0'⟩
   ·exact absurd hk0 (hn' e0 (List.mem_of_getElem? hj))
   ·have hjj:j=j':=keys_once h3 hj hj' (hk0.trans hk0'.symm)
    subst hjj
    rw [hj] at hj'
    cases hj'
    exact hf'
 rcases same with ⟨hf,hn⟩|⟨j,e0,hf,hj,hk0⟩
 ·refine ⟨.map (es.push ⟨key,val,clock⟩) (clock+1),fun W hW=>?_⟩
  have hb:=hW.trans hb0
  refine ⟨?_,⟨_,_,heap_setBlock_same hb _, ?_, ?_, ?_⟩,grown W _ hb⟩
  ·have hfW:=hf W
   simp [Instr.mapUpdate,run_underlying ht,MapKept.run_getObj_map hb,K.check W false hkey,hfW,MapKept.run_setObj_map _ hb,Result.andThen,setBlock]
  ·intro e he
   simp only [Array.toList_push,List.mem_append,List.mem_singleton] at he
   rcases he with he|rfl
   ·exact ⟨(h1 e he).1,by rw [putF_other _ _ (hn e he)];exact (h1 e he).2⟩
   ·exact ⟨⟨kl,hkey⟩,putF_same _ _ _⟩
  ·intro x v hx
   rcases putF_some hx with ⟨rfl,rfl⟩|hx
   ·exact ⟨⟨x,v,clock⟩,by simp,rfl⟩
   ·obtain ⟨e,he,hek⟩:=h2 x v hx
    exact ⟨e,by simp only [Array.toList_push,List.mem_append];exact .inl he,hek⟩
  ·rw [Array.toList_push,List.map_append,List.pairwise_append]
   refine ⟨h3,by simp,fun a ha b hb=>?_⟩
   obtain ⟨e,he,rfl⟩:=List.mem_map.1 ha
   simp at hb
   rw [hb]
   exact hn e he
 ·have hje:es[j]?=some e0:=by simpa using hj
  have hjl:j<es.size:=(Array.getElem?_eq_some_iff.1 hje).1
  have hlist:(es.modify j (fun e'=>{ e' with key:=key,val:=val })).toList=es.toList.set j { e0 with key:=key,val:=val }:=by rw [Array.toList_modify,modify_eq_set _ _ _ _ hj]
  refine ⟨.map (es.modify j (fun e'=>{ e' with key:=key,val:=val })) clock,fun W hW=>?_⟩
  have hb:=hW.trans hb0
  refine ⟨?_,⟨_,_,heap_setBlock_same hb _, ?_, ?_, ?_⟩,grown W _ hb⟩
  ·have hfW:=hf W
   simp [Instr.mapUpdate,run_underlying ht,MapKept.run_getObj_map hb,K.check W false hkey,hfW,hje,hk0,K.stays W hkey,MapKept.run_setObj_map _ hb,Result.andThen,setBlock]
  ·intro e he
   rw [hlist] at he
   obtain ⟨i,hi,hie⟩:=List.getElem_of_mem he
   rw [List.getElem_set] at hie
   split at hie
   ·subst hie
    exact ⟨⟨kl,hkey⟩,putF_same _ _ _⟩
   ·rename_i hij
    have hi':i<es.toList.length:=by simpa using hi
    have hm:e ∈ es.toList:=hie▸List.getElem_mem hi'
    refine ⟨(h1 e hm).1, ?_⟩
    rw [putF_other _ _ (fun hek=>?_)]
    ·exact (h1 e hm).2
    ·have hj':j<es.toList.length:=by simpa using hjl
     have e0j:es.toList[j]=e0:=by rw [List.getElem?_eq_getElem hj'] at hj;exact Option.some.inj hj
     have hpw:=List.pairwise_iff_getElem.1 h3
     rcases Nat.lt_or_gt_of_ne hij with hlt|hlt
     ·have:=hpw j i (by simpa using hj') (by simpa using hi') hlt
      simp only [List.getElem_map] at this
      rw [e0j,hie,hk0,hek] at this
      exact this rfl
     ·have:=hpw i j (by simpa using hi') (by simpa using hj') hlt
      simp only [List.getElem_map] at this
      rw [e0j,hie,hk0,hek] at this
      exact this rfl
  ·intro x v hx
   rw [hlist]
   by_cases hxk:x=key
   ·subst hxk
    exact ⟨⟨x,val,e0.born⟩,List.mem_iff_getElem.2 ⟨j,by simpa using hjl,by simp⟩,rfl⟩
   ·have hx':f x=some v:=by rw [putF_other _ _ hxk] at hx;exact hx
    obtain ⟨e,he,hek⟩:=h2 x v hx'
    obtain ⟨i,hi,hie⟩:=List.getElem_of_mem he
    refine ⟨e,List.mem_iff_getElem.2 ⟨i,by simpa using hi, ?_⟩,hek⟩
    rw [List.getElem_set]
    split
    ·rename_i hij
     subst hij
     rw [List.getElem?_eq_getElem hi] at hj
     cases hj
     rw [hie] at hk0
     exact absurd (hek.symm.trans hk0) hxk
    ·exact hie
  ·rw [hlist,List.map_set,← hk0,keys_set hj]
   exact h3
end
end Go.Proofs.YtddfdmopaeghnadGreatDoor
namespace Go.Proofs.YtddfdmopaeghnadGreatDoor
open Go.RowKit Go.Maps
theorem laidOutS:laidOutB Tryz.prog=true:=by kernel_rfl
theorem spotRow:(173:TypeId)<Tryz.prog.types.size:=of_decide_eq_true (by kernel_rfl)
theorem spotWide:(match Tryz.prog.underlying 173 with|some (.array _ _)|some (.struct _)=>true|_=>false)=true:=by kernel_rfl
theorem spotLaw:Keyed Tryz.prog 173:=Keyed.of_law (deep_law_laid laidOutS (m:=2) (by omega) spotRow (by kernel_rfl) spotWide)
theorem spotZero (w:World):(zeroValue 170).run Tryz.prog w=.ok (.agg #[.int .i64 0,.int .i64 0,.int .i64 0]) w:=by kernel_rfl
theorem spotTypes:Tryz.prog.types.size=359:=by kernel_rfl
theorem spotKeyType:Tryz.prog.keyType 173=true:=by kernel_rfl
theorem spotCells:Tryz.prog.cellsOf 173=2:=by kernel_rfl
theorem int_wf {n:Nat} (h:n<=9000000000000000000):(Lit.int .i64 (n:Int)).wf=true:=by
 exact WalkArith.wf_i64 (by omega)
def spotV (i col:Nat):Value:=.agg #[.int .i64 (i:Nat),.int .i64 (col:Nat)]
def courseV (c:Nat × Nat) (k:Int):Value:=.agg #[.int .i64 (c.1:Nat),.int .i64 (c.2:Nat),.int .i64 k]
theorem spot_key {i col:Nat} (hi:i<=9000000000000000000) (hc:col<=9000000000000000000):∃ kl,keyOf Tryz.prog 173 (spotV i col)=some kl:=by
 have h1:=int_wf hi
 have h2:=int_wf hc
 obtain ⟨m,hm⟩:∃ m,Tryz.prog.types.size=m+1:=⟨_,spotTypes⟩
 unfold keyOf spotV
 simp only [Tryz.underlying173]
 rw [if_pos (by simp [spotKeyType,Value.formed,Tryz.underlying173];exact spotCells.symm),hm]
 unfold Program.keyLits
 simp only [Tryz.underlying173,Value.cells]
 have k0:Tryz.prog.cellsOf 3=1:=by kernel_rfl
 rw [if_pos ⟨spotCells.symm,by simp⟩]
 simp [k0,Program.keyLits,Tryz.underlying3,h1,h2]
theorem spotV_inj {i col i' col':Nat} (h:spotV i col=spotV i' col'):i=i'/\col=col':=by
 simp [spotV] at h
 omega
def choiceOf (l:List Nd) (i:Nat) (u:List Int):Int:=if h:i<l.length then (if l[i].op=8∨l[i].op=9 then u.headD 0 else 0) else 0
def KnownC (l:List Nd) (W:Nat) (f:Value->Option Value):Prop :=
 ∀ key v,f key=some v->∃ (i col:Nat) (K:List (D × Int)),key=spotV i col/\Rep l i K/\v=courseV (bestC W K col) (choiceOf l i (bestU W K col))
theorem KnownC.none (l:List Nd) (W:Nat):KnownC l W (fun _=>Option.none):=fun _ _ h=>by cases h
theorem KnownC.put {l:List Nd} {W:Nat} {f:Value->Option Value} (h:KnownC l W f) {i col:Nat} {K:List (D × Int)} (hr:Rep l i K):KnownC l W (putF f (spotV i col) (courseV (bestC W K col) (choiceOf l i (bestU W K col)))):=by
 intro key v hk
 rcases putF_some hk with ⟨rfl,rfl⟩|hk
 ·exact ⟨i,col,K,rfl,hr,rfl⟩
 ·exact h key v hk
theorem KnownC.at_ {l:List Nd} {W:Nat} {f:Value->Option Value} (h:KnownC l W f) {i col:Nat} {K:List (D × Int)} (hr:Rep l i K) {v:Value} (hv:f (spotV i col)=some v):v=courseV (bestC W K col) (choiceOf l i (bestU W K col)):=by
 obtain ⟨i',col',K',hk,hr',hv'⟩:=h _ _ hv
 obtain ⟨rfl,rfl⟩:=spotV_inj hk
 have:=hr.uniq hr'
 subst this
 exact hv'
structure CS (w0:World) (gs gp bm W:Nat) (l:List Nd) (w:World):Prop where
 blk:w.heap[gs]?=some (.cells #[.pointer (some ⟨gp,0,none⟩),.int .i64 (W:Nat),.map (some bm)] 168 (0,0))
 map:∃ f,MapF Tryz.prog 173 f bm w/\KnownC l W f
 lowS:w0.heap.size<=gs
 lowM:w0.heap.size<=bm
 bel:Below w0.heap.size w0 w
theorem gb_of_below {w w':World} (h:Below w.heap.size w w') (b:Nat):w.grownBy w' (some b):=⟨h.os,h.tape,h.output,h.size,fun i hi _=>h.block i hi⟩
theorem gb_alloc {a w:World} {b:Nat} (h:a.grownBy w (some b)) (o:Obj):a.grownBy (w.alloc o) (some b):=grown_below h ((Below.refl _ _).alloc (Nat.le_refl _) _)
theorem gb_drewN {a w:World} {b:Nat} (h:a.grownBy w (some b)) (n:Nat):a.grownBy (w.drewN n) (some b):=grown_below h (below_drewN (Below.refl _ _) n)
theorem gb_drew {a w:World} {b:Nat} (h:a.grownBy w (some b)):a.grownBy w.drew (some b):=grown_below h ((Below.refl _ _).drew)
theorem gb_below {a w w':World} {b:Nat} (h:a.grownBy w (some b)) (hb:Below w.heap.size w w'):a.grownBy w' (some b):=grown_below h hb
theorem gb_set {a w:World} {b:Nat} (h:a.grownBy w (some b)) {p:Addr} (hp:a.heap.size<=p.block) (v:Value):a.grownBy (w.setCell p v) (some b) :=
 ⟨h.os,h.tape,h.output,by simpa [World.setCell] using h.size,fun i hi hne=>by
  rw [← h.block i hi hne]
  have:i≠p.block:=by omega
  simp [World.setCell,Array.getElem?_modify]
  intro e;exact absurd e.symm this⟩
theorem blk_gb {a w:World} {b g:Nat} {o:Obj} (hg:a.heap[g]?=some o) (h:a.grownBy w (some b)) (hne:g≠b):w.heap[g]?=some o :=
 (h.block g (lt_of_heap hg) (by simpa using hne)).trans hg
theorem blk_cell {w:World} {g j:Nat} {cs:Array Value} {T:TypeId} {fr:Nat × Nat} (h:w.heap[g]?=some (.cells cs T fr)):w.cell? ⟨g,j,none⟩=cs[j]?:=cell_of_row w g j cs T fr h
theorem blk_free {w:World} {g j:Nat} {cs:Array Value} {T:TypeId} (h:w.heap[g]?=some (.cells cs T (0,0))):w.frozen? ⟨g,j,none⟩=false:=by simp [World.frozen?,h]
variable {w0 w w':World} {gs gp bm W:Nat} {l:List Nd}
theorem CS.past (h:CS w0 gs gp bm W l w) (hb:Below w.heap.size w w'):CS w0 gs gp bm W l w':=by
 obtain ⟨f,h1,h2⟩:=h.map
 exact ⟨blk_below h.blk hb,⟨f,h1.below hb,h2⟩,h.lowS,h.lowM,h.bel.trans (hb.mono h.bel.size)⟩
theorem CS.ms (h:CS w0 gs gp bm W l w):gs≠bm:=by
 obtain ⟨f,⟨es,clock,hb,_⟩,_⟩:=h.map
 rintro rfl
 rw [h.blk] at hb
 cases hb
theorem CS.mlt (h:CS w0 gs gp bm W l w):bm<w.heap.size:=by
 obtain ⟨f,h1,_⟩:=h.map
 exact h1.lt
theorem CS.set (h:CS w0 gs gp bm W l w) {p:Addr} (h1:p.block≠gs) (h2:p.block≠bm) (h3:w0.heap.size<=p.block) (v:Value):CS w0 gs gp bm W l (w.setCell p v):=by
 obtain ⟨f,g1,g2⟩:=h.map
 refine ⟨blk_set h.blk p v (Ne.symm h1),⟨f,g1.of_block ?_,g2⟩,h.lowS,h.lowM,h.bel.setCell h3 _⟩
 simp [World.setCell,Array.getElem?_modify]
 intro e;exact absurd e h2
theorem CS.new (w:World) (gp W:Nat) (l:List Nd):CS w (w.heap.size+1) gp w.heap.size W l ((w.alloc (.map #[] 0)).alloc (.cells #[.pointer (some ⟨gp,0,none⟩),.int .i64 (W:Nat),.map (some w.heap.size)] 168)):=by
 refine ⟨heap_new (by simp),⟨_,(MapF.made w).below ((Below.refl _ _).alloc (Nat.le_refl _) _),KnownC.none l W⟩,by omega,Nat.le_refl _,((Below.refl _ _).alloc (Nat.le_refl _) _).alloc (by simp) _⟩
def CheapTo (w0:World) (gs gp bm W:Nat) (l:List Nd) (v:Value) (w:World) (e:Ending) (w':World):Prop:=e=.returned v/\CS w0 gs gp bm W l w'/\w.grownBy w' (some bm)
def CheapSaid (w0:World) (gs gp bm W:Nat) (l:List Nd) (z:Nat):Prop :=
 ∀ (K:List (D × Int)),szK K<=z->∀ (i col:Nat) (w:World),Rep l i K->CS w0 gs gp bm W l w->col+3300*szK K<=2000000 ->
  Calls Tryz.prog 90 #[.pointer (some ⟨gs,0,none⟩),spotV i col] w (CheapTo w0 gs gp bm W l (courseV (bestC W K col) (choiceOf l i (bestU W K col))) w)
end Go.Proofs.YtddfdmopaeghnadGreatDoor
namespace Go.Proofs.YtddfdmopaeghnadGreatDoor
open Go.RowKit
theorem cut_no {t:ByteArray} (h:NoNl t.data.toList) (w:World):Calls Tryz.prog 68 #[.string t,.string ⟨#[10]⟩] w fun e w'=>e=.returned (.tuple #[.string t,.bool false])/\w=w':=by
 refine (Tryz.strings_CutPrefix t ⟨#[10]⟩ w).mono fun e w' ⟨he,hw⟩=>⟨?_,hw.symm⟩
 have hp:Lib.hasPrefix t.data.toList [10]=false:=by
  cases hl:t.data.toList with
  | nil=>rfl
  | cons c r =>
   have hc:c≠10:=h c (by simp [hl])
   simp [Lib.hasPrefix,List.isPrefixOf]
   exact fun e=>hc e.symm
 rw [he]
 have e1:(⟨#[10]⟩:ByteArray).data.toList=[10]:=rfl
 rw [e1,Lib.trimPrefix,hp]
 simp
theorem cut_yes {r:List UInt8} (w:World):Calls Tryz.prog 68 #[.string ⟨(10::r).toArray⟩,.string ⟨#[10]⟩] w fun e w'=>e=.returned (.tuple #[.string ⟨r.toArray⟩,.bool true])/\w=w':=by
 refine (Tryz.strings_CutPrefix ⟨(10::r).toArray⟩ ⟨#[10]⟩ w).mono fun e w' ⟨he,hw⟩=>⟨?_,hw.symm⟩
 have hp:Lib.hasPrefix (10::r) [10]=true:=by simp [Lib.hasPrefix,List.isPrefixOf]
 rw [he]
 have e1:(⟨#[10]⟩:ByteArray).data.toList=[10]:=rfl
 have e2:(⟨(10::r).toArray⟩:ByteArray).data.toList=10::r:=by simp
 rw [e1,e2,Lib.trimPrefix,hp]
 simp
theorem plus_any (a b:Nat × Nat) (h1:a.1+b.1<=9000000) (h2:a.2+b.2<=9000000) (w:World) :
  Calls Tryz.prog 161 #[.agg #[.int .i64 (a.1:Nat),.int .i64 (a.2:Nat)],.agg #[.int .i64 (b.1:Nat),.int .i64 (b.2:Nat)]] w (Ret w (.agg #[.int .i64 ((cAdd a b).1:Nat),.int .i64 ((cAdd a b).2:Nat)])):=by
 obtain ⟨a1,a2⟩:=a
 obtain ⟨b1,b2⟩:=b
 simp only [cAdd] at *
 go_enter Tryz.func161,Tryz.ntmps161
 go_wp2
 simp [bodyPost,results,Tryz.results161,go_sem]
 exact ⟨rfl,bel_⟩
theorem under_any (a b:Nat × Nat) {r:Bool} (h:cLess a b=r) (w:World) :
  Calls Tryz.prog 163 #[.agg #[.int .i64 (a.1:Nat),.int .i64 (a.2:Nat)],.agg #[.int .i64 (b.1:Nat),.int .i64 (b.2:Nat)]] w (Ret w (.bool r)):=by
 obtain ⟨a1,a2⟩:=a
 obtain ⟨b1,b2⟩:=b
 simp only [cLess] at h ⊢
 subst h
 have he:((a1:Int)==(b1:Int))=decide (a1=b1):=by rw [Bool.eq_iff_iff];simp;omega
 by_cases h1:a1<b1
 ·have k1:decide (a1<b1)=true:=decide_eq_true h1
  have k2:decide (a1<b1∨a1=b1/\a2<b2)=true:=decide_eq_true (.inl h1)
  rw [k2]
  clear k2 he
  go_enter Tryz.func163,Tryz.ntmps163
  go_wp2
  go_ret
  exact ⟨rfl,bel_⟩
 ·have k1:decide (a1<b1)=false:=decide_eq_false h1
  by_cases h2:a1=b1
  ·subst h2
   have k3:decide (a1<a1∨a1=a1/\a2<b2)=decide (a2<b2):=by congr 1;simp
   rw [k3]
   clear k3 he h1
   by_cases h3:a2<b2
   ·have k4:decide (a2<b2)=true:=decide_eq_true h3
    rw [k4]
    go_enter Tryz.func163,Tryz.ntmps163
    go_wp2
    go_ret
    exact ⟨rfl,bel_⟩
   ·have k4:decide (a2<b2)=false:=decide_eq_false h3
    rw [k4]
    go_enter Tryz.func163,Tryz.ntmps163
    go_wp2
    go_ret
    exact ⟨rfl,bel_⟩
  ·have k2:((a1:Int)==(b1:Int))=false:=by rw [he];exact decide_eq_false h2
   have k3:decide (a1<b1∨a1=b1/\a2<b2)=false:=decide_eq_false (by omega)
   rw [k3]
   clear k3 he
   go_enter Tryz.func163,Tryz.ntmps163
   go_wp2
   go_ret
   exact ⟨rfl,bel_⟩
theorem put_no {gs gp bm W col:Nat} {t:ByteArray} (ht:NoNl t.data.toList) (hc:col<=9000000) (hz:t.size<=9000000) (hW:W<=100) (w:World)
  (hb:w.heap[gs]?=some (.cells #[.pointer (some ⟨gp,0,none⟩),.int .i64 (W:Nat),.map (some bm)] 168 (0,0))) :
  Calls Tryz.prog 160 #[.pointer (some ⟨gs,0,none⟩),.string t,.int .i64 (col:Nat)] w (Ret w (.tuple #[.agg #[.int .i64 ((cst W col t.data.toList).1:Nat),.int .i64 ((cst W col t.data.toList).2:Nat)],.int .i64 (colOf col t.data.toList:Nat)])):=by
 have hov:(ovr W col t.data.toList:Int)=max 0 ((col:Int)+t.size-W)-max 0 ((col:Int)-W):=by
  rw [ovr_no W _ col ht]
  have:t.data.toList.length=t.size:=by simp
  rw [this]
  omega
 have hcl:(colOf col t.data.toList:Int)=col+t.size:=by
  rw [colOf_no _ _ ht];simp
 have hln:=lns_no _ ht
 have c1:=blk_cell (j:=1) hb
 simp at c1
 have hlt:=lt_of_heap hb
 have HT:=hd_ ht;have HOV:=hd_ hov;have HCL:=hd_ hcl;have HLN:=hd_ hln
 clear ht hov hcl hln hb
 go_enter Tryz.func160,Tryz.ntmps160
 go_wp2_with (go_at_call 68;refine (cut_no HT.out _).mono ?_;rintro e w1 ⟨rfl,rfl⟩)
 have c2:∀ o1 o2,((w.alloc o1).alloc o2).cell? ⟨gs,1,none⟩=some (.int .i64 (W:Nat)):=fun o1 o2 =>
  ((((Below.refl _ _).alloc (Nat.le_refl _) _).alloc (by simp) _:Below w.heap.size w _).cell (p:=⟨gs,1,none⟩) hlt).trans c1
 have k1:IntKind.i64.wrap ((col:Int)+t.size-W)=(col:Int)+t.size-W:=IntWalk.i64_in _ (by omega)
 have k2:IntKind.i64.wrap ((col:Int)-W)=(col:Int)-W:=IntWalk.i64_in _ (by omega)
 have k3:IntKind.i64.wrap (max 0 ((col:Int)+t.size-W)-max 0 ((col:Int)-W))=(ovr W col t.data.toList:Nat):=by rw [← HOV.out];exact IntWalk.i64_in _ (by have:=ovr_le W t.data.toList col;simp at this;omega)
 go_region_held3 (fun w'=>w'.cell? ⟨gs,1,none⟩=some (.int .i64 (W:Nat))) (exact c2 _ _) (fail)
 clear k1 k2 k3
 all_goals
  go_wp2
  simp [bodyPost,results,Tryz.results160,go_sem]
  refine ⟨?_,bel_⟩
  rw [HCL.out,cst,HLN.out]
  first|rfl|(rw [HOV.out];rfl)
theorem put_nl {gs gp bm W col:Nat} {r:List UInt8} (ht:NoNl r) (hz:r.length<=9000000) (hW:W<=100) (w:World)
  (hb:w.heap[gs]?=some (.cells #[.pointer (some ⟨gp,0,none⟩),.int .i64 (W:Nat),.map (some bm)] 168 (0,0))) :
  Calls Tryz.prog 160 #[.pointer (some ⟨gs,0,none⟩),.string ⟨(10::r).toArray⟩,.int .i64 (col:Nat)] w (Ret w (.tuple #[.agg #[.int .i64 ((cst W col (10::r)).1:Nat),.int .i64 ((cst W col (10::r)).2:Nat)],.int .i64 (colOf col (10::r):Nat)])):=by
 obtain ⟨t,htr⟩:∃ t:ByteArray,t=⟨r.toArray⟩:=⟨_,rfl⟩
 have hts:t.size=r.length:=by rw [htr];simp [ByteArray.size]
 have hcs:cst W col (10::r)=(ovr W 0 r,1):=by simp [cst,ovr,lns,lns_no _ ht]
 have hcl:colOf col (10::r)=t.size:=by rw [colOf,if_pos rfl,colOf_no _ _ ht,hts];omega
 have hov:(ovr W 0 r:Int)=max 0 ((t.size:Int)-W)-max 0 ((0:Int)-W):=by
  rw [ovr_no W _ 0 ht,hts]
  omega
 have hol:=ovr_le W r 0
 rw [hcs,hcl]
 have c1:=blk_cell (j:=1) hb
 simp at c1
 have hlt:=lt_of_heap hb
 rw [← hts] at hz hol
 have CUT:=hd_ (fun w=>cut_yes (r:=r) w)
 rw [← htr] at CUT
 have HOV:=hd_ hov
 clear ht hov hcl hcs hb hts htr
 generalize ovr W 0 r=OV at *
 go_enter Tryz.func160,Tryz.ntmps160
 go_wp2_with (go_at_call 68;refine (CUT.out _).mono ?_;rintro e w1 ⟨rfl,rfl⟩)
 have c2:∀ o1 o2,((w.alloc o1).alloc o2).cell? ⟨gs,1,none⟩=some (.int .i64 (W:Nat)):=fun o1 o2 =>
  ((((Below.refl _ _).alloc (Nat.le_refl _) _).alloc (by simp) _:Below w.heap.size w _).cell (p:=⟨gs,1,none⟩) hlt).trans c1
 have k1:IntKind.i64.wrap ((t.size:Int)-W)=(t.size:Int)-W:=IntWalk.i64_in _ (by omega)
 have k2:IntKind.i64.wrap ((0:Int)-W)=(0:Int)-W:=IntWalk.i64_in _ (by omega)
 have k3:IntKind.i64.wrap (max 0 ((t.size:Int)-W)-max 0 ((0:Int)-W))=(OV:Nat):=by rw [← HOV.out];exact IntWalk.i64_in _ (by omega)
 go_region_held3 (fun w'=>w'.cell? ⟨gs,1,none⟩=some (.int .i64 (W:Nat))) (exact c2 _ _) (fail)
 clear k1 k2 k3
 all_goals
  go_wp2
  simp [bodyPost,results,Tryz.results160,go_sem]
  refine ⟨?_,bel_⟩
  first|rfl|(rw [HOV.out];simp)
theorem put_any {gs gp bm W col:Nat} {t:ByteArray} (ht:PTxt t) (hc:col<=9000000) (hz:t.size<=9000000) (hW:W<=100) (w:World)
  (hb:w.heap[gs]?=some (.cells #[.pointer (some ⟨gp,0,none⟩),.int .i64 (W:Nat),.map (some bm)] 168 (0,0))) :
  Calls Tryz.prog 160 #[.pointer (some ⟨gs,0,none⟩),.string t,.int .i64 (col:Nat)] w (Ret w (.tuple #[.agg #[.int .i64 ((cst W col t.data.toList).1:Nat),.int .i64 ((cst W col t.data.toList).2:Nat)],.int .i64 (colOf col t.data.toList:Nat)])):=by
 rcases ht with h|⟨r,h,rfl⟩
 ·exact put_no h hc hz hW w hb
 ·have e:(⟨(10::r).toArray⟩:ByteArray).data.toList=10::r:=by simp
  rw [e]
  have hsz1:(⟨(10::r).toArray⟩:ByteArray).size=r.length+1:=by simp [ByteArray.size]
  exact put_nl h (by omega) hW w hb
end Go.Proofs.YtddfdmopaeghnadGreatDoor
namespace Go.Proofs.YtddfdmopaeghnadGreatDoor
open Go.RowKit Go.Maps Go.ChangeMaps
theorem bestC_le (W:Nat) (K:List (D × Int)) (col:Nat) (h:∀ u ∈ waysK K,(textK K u).length<=3300*szK K):(bestC W K col).1<=3300*szK K/\(bestC W K col).2<=3300*szK K:=by
 have h1:=h _ (bestU_mem W K col)
 exact ⟨Nat.le_trans (ovr_le _ _ _) h1,Nat.le_trans (lns_le _) h1⟩
theorem Doc.text_le {l:List Nd} {x:D} (hd:Doc l x):∀ (z:Nat) (i:Nat) (K:List (D × Int)),szK K<=z->Rep l i K->∀ u ∈ waysK K,(textK K u).length<=3300*szK K:=by
 intro z
 induction z with
 | zero =>
  intro i K hz hr u hu
  by_cases hi:i<l.length
  ·have:=szK_pos hr hi;omega
  ·obtain ⟨rfl,_⟩:=hr.ge (by omega)
   simp [waysK] at hu
   subst hu
   simp [textK,layK]
 | succ z ih =>
  intro i K hz hr u hu
  by_cases hi:i<l.length
  ·by_cases ho:l[i].op=8∨l[i].op=9
   ·obtain ⟨t0,ok0,i0,i1,K0,K1,hp,h0,h1,_⟩:=best_ask (gp:=0) (A:=none) (c:=0) hd hr hi ho
    rw [hp.2.2.2.2,List.mem_append] at hu
    rcases hu with hu|hu
    ·cases ok0 with
     | false=>simp at hu
     | true =>
      simp only [if_true,List.mem_map] at hu
      obtain ⟨v,hv,rfl⟩:=hu
      obtain ⟨_,g2,g3⟩:=h0 rfl
      rw [textK_step (g3 v) hv,List.length_append]
      have:=ih i0 K0 (by have:=hp.2.2.1;omega) hp.1 v hv
      have e:t0.data.toList.length=t0.size:=by simp
      omega
    ·simp only [List.mem_map] at hu
     obtain ⟨v,hv,rfl⟩:=hu
     obtain ⟨_,g2,g3⟩:=h1
     rw [textK_step (g3 v) hv,List.length_append]
     have:=ih i1 K1 (by have:=hp.2.2.2.1;omega) hp.2.1 v hv
     simp only [ByteArray.size_empty] at g2
     have e:ByteArray.empty.data.toList.length=0:=by simp
     omega
   ·obtain ⟨txt,nx,K',hs,hw,_,_⟩:=best_go (gp:=0) (A:=none) (c:=0) hd hr hi ⟨fun h=>ho (.inl h),fun h=>ho (.inr h)⟩
    rw [hw] at hu
    rw [textK_step (hs.2.2.2 u) hu,List.length_append]
    have:=ih nx K' (by have:=hs.2.1;omega) hs.1 u hu
    have e:txt.data.toList.length=txt.size:=by simp
    have:=hs.2.2.1
    omega
  ·obtain ⟨rfl,_⟩:=hr.ge (by omega)
   simp [waysK] at hu
   subst hu
   simp [textK,layK]
theorem Rep.le {l:List Nd} {i:Nat} {K:List (D × Int)} (h:Rep l i K):i<=l.length:=by
 rcases Nat.lt_or_ge i l.length with h1|h1
 ·omega
 ·exact Nat.le_of_eq (h.ge h1).2
def HeadIs (gs gp bm:Nat) (A:Option Addr) (c n bx i col:Nat) (f:Value->Option Value) (W':World):Prop :=
 W'.cell? ⟨gs,0,none⟩=some (.pointer (some ⟨gp,0,none⟩))/\W'.cell? ⟨gs,2,none⟩=some (.map (some bm))/\W'.cell? ⟨gp,0,none⟩=some (.slice A n c)/\W'.cell? ⟨bx,0,none⟩=some (.int .i64 (i:Nat))/\W'.cell? ⟨bx,1,none⟩=some (.int .i64 (col:Nat)) /\
  (Instr.lookup 166 (.map (some bm)) (.agg #[.int .i64 (i:Nat),.int .i64 (col:Nat)]) true).run Tryz.prog W'=.ok (.tuple #[(f (spotV i col)).getD (.agg #[.int .i64 0,.int .i64 0,.int .i64 0]),.bool (f (spotV i col)).isSome]) W'
theorem HeadIs.past {gs gp bm c n bx i col:Nat} {A:Option Addr} {f:Value->Option Value} {w w':World} (h0:w.cell? ⟨gs,0,none⟩=some (.pointer (some ⟨gp,0,none⟩))) (h2:w.cell? ⟨gs,2,none⟩=some (.map (some bm))) (hp:w.cell? ⟨gp,0,none⟩=some (.slice A n c))
  (hx:w.heap[bx]?=some (.cells #[.int .i64 (i:Nat),.int .i64 (col:Nat)] 173 (0,0))) (hm:MapF Tryz.prog 173 f bm w) (hs:gs<w.heap.size) (hg:gp<w.heap.size) {kl:Lit} (hk:keyOf Tryz.prog 173 (spotV i col)=some kl) (hb:Below w.heap.size w w'):HeadIs gs gp bm A c n bx i col f w':=by
 have hx':=blk_below hx hb
 exact ⟨(hb.cell (p:=⟨gs,0,none⟩) hs).trans h0,(hb.cell (p:=⟨gs,2,none⟩) hs).trans h2,(hb.cell (p:=⟨gp,0,none⟩) hg).trans hp,blk_cell hx',blk_cell hx',(hm.below hb).look spotLaw Tryz.underlying166 (spotZero _) hk⟩
theorem rq29 {P:Prop} (h:P:=by
 refine HeadIs.past (((hb1 _ _).cell (p:=⟨gs,0,none⟩) hsl).trans y0) (((hb1 _ _).cell (p:=⟨gs,2,none⟩) hsl).trans y2) (((hb1 _ _).cell (p:=⟨gp,0,none⟩) hgp).trans z0) ?_ (hmf.below (hb1 _ _)) (by simp;omega) (by simp;omega) hkl hW'
 exact (Below.heap_alloc _ _ _ (by simp)).trans (heap_new rfl)):P:=h
theorem cheap_known {l:List Nd} {x:D} (hd:Doc l x) {gp:Nat} {A:Option Addr} {c:Nat} (w0:World) (hpl:IsPlan w0 gp A c l) {gs bm W:Nat} {i col:Nat} {w:World} (hcs:CS w0 gs gp bm W l w) (hcol:col<=2000000)
  {f:Value->Option Value} (hmf:MapF Tryz.prog 173 f bm w) {a b:Nat} {ch:Int} (hv:f (spotV i col)=some (.agg #[.int .i64 (a:Nat),.int .i64 (b:Nat),.int .i64 ch])) (hlt:i<l.length) :
  Calls Tryz.prog 90 #[.pointer (some ⟨gs,0,none⟩),spotV i col] w (Ret w (.agg #[.int .i64 (a:Nat),.int .i64 (b:Nat),.int .i64 ch])):=by
 have h400:=hd.len
 obtain ⟨kl,hkl⟩:=spot_key (i:=i) (col:=col) (by omega) (by omega)
 have hml:=hcs.mlt
 have hsl:=lt_of_heap hcs.blk
 have y0:=blk_cell (j:=0) hcs.blk
 have y2:=blk_cell (j:=2) hcs.blk
 simp at y0 y2
 obtain ⟨gn,gd,ge,gf',gi,cf,ci,hpa⟩:=hpl.past hcs.bel
 have z0:=hpa.c0
 have hgp:=hpa.lp
 have hne:((i:Int)==(l.length:Int))=false:=by rw [beq_eq_false_iff_ne];omega
 have hb1:∀ o1 o2,Below w.heap.size w ((w.alloc o1).alloc o2):=fun o1 o2=>((Below.refl _ _).alloc (Nat.le_refl _) _).alloc (by simp) _
 have HW:∀ (o2:Obj) W',Below (((w.alloc (.cells #[.int .i64 (i:Nat),.int .i64 (col:Nat)] 173)).alloc o2).heap.size) ((w.alloc (.cells #[.int .i64 (i:Nat),.int .i64 (col:Nat)] 173)).alloc o2) W'->HeadIs gs gp bm A c l.length w.heap.size i col f W':=fun o2 W' hW'=>by
  exact rq29
 unfold HeadIs at HW
 simp only [hv,Option.getD_some,Option.isSome_some] at HW
 unfold spotV
 have HWW:=hd_ HW
 clear HW hpa hkl hcs hmf hv hpl hd y0 y2 z0
 go_enter Tryz.func90,Tryz.ntmps90
 go_wp2
 obtain ⟨q0,q2,z0,x0,x1,hl⟩:=HWW.out (.cells #[.int .i64 0,.int .i64 0,.int .i64 0] 170) _ (Below.refl _ _)
 clear hl
 go_quiet (fail)
 go_wp2
 have hlk:∀ n:Nat,(Instr.lookup 166 (.map (some bm)) (.agg #[.int .i64 (i:Nat),.int .i64 (col:Nat)]) true).run Tryz.prog (((w.alloc (.cells #[.int .i64 (i:Nat),.int .i64 (col:Nat)] 173)).alloc (.cells #[.int .i64 0,.int .i64 0,.int .i64 0] 170)).drewN n)=.ok (.tuple #[.agg #[.int .i64 (a:Nat),.int .i64 (b:Nat),.int .i64 ch],.bool true]) (((w.alloc (.cells #[.int .i64 (i:Nat),.int .i64 (col:Nat)] 173)).alloc (.cells #[.int .i64 0,.int .i64 0,.int .i64 0] 170)).drewN n) :=
  fun n=>(HWW.out _ _ (below_drewN (Below.refl _ _) n)).2.2.2.2.2
 have hlk2:∀ n:Nat,(Instr.lookup 166 (.map (some bm)) (.agg #[.int .i64 (i:Nat),.int .i64 (col:Nat)]) true).run Tryz.prog ((((w.alloc (.cells #[.int .i64 (i:Nat),.int .i64 (col:Nat)] 173)).alloc (.cells #[.int .i64 0,.int .i64 0,.int .i64 0] 170)).drewN n).alloc (.cells #[.int .i64 0,.int .i64 0,.int .i64 0] 170))=.ok (.tuple #[.agg #[.int .i64 (a:Nat),.int .i64 (b:Nat),.int .i64 ch],.bool true]) ((((w.alloc (.cells #[.int .i64 (i:Nat),.int .i64 (col:Nat)] 173)).alloc (.cells #[.int .i64 0,.int .i64 0,.int .i64 0] 170)).drewN n).alloc (.cells #[.int .i64 0,.int .i64 0,.int .i64 0] 170)) :=
  fun n=>(HWW.out (.cells #[.int .i64 0,.int .i64 0,.int .i64 0] 170) ((((w.alloc (.cells #[.int .i64 (i:Nat),.int .i64 (col:Nat)] 173)).alloc (.cells #[.int .i64 0,.int .i64 0,.int .i64 0] 170)).drewN n).alloc (.cells #[.int .i64 0,.int .i64 0,.int .i64 0] 170)) bel_).2.2.2.2.2
 go_region_held3 (fun w'=>w'.cell? ⟨gs,2,none⟩=some (.map (some bm))/\w'.cell? ⟨w.heap.size,0,none⟩=some (.int .i64 (i:Nat))/\w'.cell? ⟨w.heap.size,1,none⟩=some (.int .i64 (col:Nat)))
  (exact ⟨(HWW.out (.cells #[.int .i64 0,.int .i64 0,.int .i64 0] 170) _ bel_).2.1,(HWW.out (.cells #[.int .i64 0,.int .i64 0,.int .i64 0] 170) _ bel_).2.2.2.1,(HWW.out (.cells #[.int .i64 0,.int .i64 0,.int .i64 0] 170) _ bel_).2.2.2.2.1⟩) (fail)
 clear hlk hlk2
 all_goals
  go_wp2
  simp [bodyPost,results,Tryz.results90,go_sem]
  exact ⟨rfl,bel_⟩
theorem cheap_end {l:List Nd} {gp:Nat} {A:Option Addr} {c:Nat} (w0:World) (hpl:IsPlan w0 gp A c l) {gs bm W:Nat} {col:Nat} {w:World} (hcs:CS w0 gs gp bm W l w) :
  Calls Tryz.prog 90 #[.pointer (some ⟨gs,0,none⟩),spotV l.length col] w (Ret w (.agg #[.int .i64 0,.int .i64 0,.int .i64 0])):=by
 have hsl:=lt_of_heap hcs.blk
 have y0:=blk_cell (j:=0) hcs.blk
 simp at y0
 obtain ⟨gn,gd,ge,gf',gi,cf,ci,hpa⟩:=hpl.past hcs.bel
 have z0:=hpa.c0
 have hgp:=hpa.lp
 have hne:((l.length:Int)==(l.length:Int))=true:=by simp
 have hb1:∀ o1 o2,Below w.heap.size w ((w.alloc o1).alloc o2):=fun o1 o2=>((Below.refl _ _).alloc (Nat.le_refl _) _).alloc (by simp) _
 have q0:∀ o1 o2,((w.alloc o1).alloc o2).cell? ⟨gs,0,none⟩=some (.pointer (some ⟨gp,0,none⟩)):=fun o1 o2=>((hb1 o1 o2).cell (p:=⟨gs,0,none⟩) hsl).trans y0
 have q1:∀ o1 o2,((w.alloc o1).alloc o2).cell? ⟨gp,0,none⟩=some (.slice A l.length c):=fun o1 o2=>((hb1 o1 o2).cell (p:=⟨gp,0,none⟩) hgp).trans z0
 unfold spotV
 clear hpa hcs hpl y0 z0
 go_enter Tryz.func90,Tryz.ntmps90
 go_wp2
 go_quiet (fail)
 go_wp2
 simp [bodyPost,results,Tryz.results90,go_sem]
 exact ⟨rfl,bel_⟩
theorem course_cost (x y z:Value) (W:World):(Instr.field 170 (.agg #[x,y,z]) 0).run Tryz.prog W=.ok (.agg #[x,y]) W:=by kernel_rfl
theorem course_choice (x y z:Value) (W:World):(Instr.field 170 (.agg #[x,y,z]) 1).run Tryz.prog W=.ok z W:=by kernel_rfl
theorem blk_set3 {w:World} {b:Nat} {x y z p q r:Value} {T:TypeId} {fr:Nat × Nat} (h:w.heap[b]?=some (.cells #[x,y,z] T fr)):(((w.setCell ⟨b,0,none⟩ p).setCell ⟨b,1,none⟩ q).setCell ⟨b,2,none⟩ r).heap[b]?=some (.cells #[p,q,r] T fr):=by
 simp [World.setCell,Array.getElem?_modify,h]
theorem blk_gb' {a w:World} {b g:Nat} {o:Obj} (h:a.grownBy w (some b)) (hg:a.heap[g]?=some o) (hne:g≠b):w.heap[g]?=some o:=blk_gb hg h hne
def set3 (w:World) (b:Nat) (p q r:Value):World:=((w.setCell ⟨b,0,none⟩ p).setCell ⟨b,1,none⟩ q).setCell ⟨b,2,none⟩ r
theorem CS.set3_ {w0 w:World} {gs gp bm W b:Nat} {l:List Nd} (h:CS w0 gs gp bm W l w) (h1:b≠gs) (h2:b≠bm) (h3:w0.heap.size<=b) (p q r:Value):CS w0 gs gp bm W l (set3 w b p q r) :=
 ((h.set (p:=⟨b,0,none⟩) h1 h2 h3 p).set (p:=⟨b,1,none⟩) h1 h2 h3 q).set (p:=⟨b,2,none⟩) h1 h2 h3 r
theorem gb_set3 {a w:World} {m b:Nat} (h:a.grownBy w (some m)) (hb:a.heap.size<=b) (p q r:Value):a.grownBy (set3 w b p q r) (some m) :=
 gb_set (gb_set (gb_set h (p:=⟨b,0,none⟩) hb p) (p:=⟨b,1,none⟩) hb q) (p:=⟨b,2,none⟩) hb r
theorem blk_far3 {w:World} {g b:Nat} {o:Obj} (h:w.heap[g]?=some o) (hne:g≠b) (p q r:Value):(set3 w b p q r).heap[g]?=some o :=
 blk_set (blk_set (blk_set h ⟨b,0,none⟩ p hne) ⟨b,1,none⟩ q hne) ⟨b,2,none⟩ r hne
theorem CS.store {w0 w:World} {gs gp bm W i col:Nat} {l:List Nd} (h:CS w0 gs gp bm W l w) {f:Value->Option Value} {val:Value} {o:Obj}
  (ho:∀ W':World,W'.heap[bm]?=w.heap[bm]?->(Instr.mapUpdate 166 (.map (some bm)) (.agg #[.int .i64 (i:Nat),.int .i64 (col:Nat)]) val).run Tryz.prog W'=.ok () (setBlock W' bm o)/\MapF Tryz.prog 173 (putF f (.agg #[.int .i64 (i:Nat),.int .i64 (col:Nat)]) val) bm (setBlock W' bm o)/\W'.grownBy (setBlock W' bm o) (some bm))
  (hk:KnownC l W (putF f (.agg #[.int .i64 (i:Nat),.int .i64 (col:Nat)]) val)) (n:Nat):CS w0 gs gp bm W l (setBlock (w.drewN n) bm o):=by
 obtain ⟨_,h2,h3⟩:=ho (w.drewN n) rfl
 exact ⟨blk_gb' h3 h.blk h.ms,⟨_,h2,hk⟩,h.lowS,h.lowM,(below_drewN h.bel n).grown h3 h.bel.size (fun k e=>by cases e;exact h.lowM)⟩
theorem then_named {K:Act->World->Prop} {Q:Exit->Act->World->Prop} {e:Exit} {a:Act} {w:World} (S:World->Prop) (hS:S w) (h:∀ w',S w'->Exit.then K Q e a w'):Exit.then K Q e a w:=h w hS
theorem wp_named {P:Program} {c:Code} {Q:Exit->Act->World->Prop} {a:Act} {w:World} (S:World->Prop) (hS:S w) (h:∀ w',S w'->Code.wp P c Q a w'):Code.wp P c Q a w:=h w hS
theorem rq28 {P:Prop} (h:P:=by
 go_region_held3 (fun w'=>w'.cell? ⟨gs,2,none⟩=some (.map (some bm))/\w'.cell? ⟨w.heap.size,0,none⟩=some (.int .i64 (i:Nat))/\w'.cell? ⟨w.heap.size,1,none⟩=some (.int .i64 (col:Nat)))
  (exact ⟨(HWW.out (.cells #[.int .i64 0,.int .i64 0,.int .i64 0] 170) _ bel_).2.1,(HWW.out (.cells #[.int .i64 0,.int .i64 0,.int .i64 0] 170) _ bel_).2.2.2.1,(HWW.out (.cells #[.int .i64 0,.int .i64 0,.int .i64 0] 170) _ bel_).2.2.2.2.1⟩) (fail)
 all_goals
  go_wp2_with fail
  go_meet
  case rel=>exact ⟨rfl,bel_,(HBX.out _ bel_).1,(HBX.out _ bel_).2⟩):P:=h
theorem rq34 {P:Prop} (h:P:=by
 have b1:=blk_cell (j:=0) b0
 have b2:=blk_cell (j:=1) b0
 have b3:=blk_cell (j:=2) b0
 simp at b1 b2 b3
 simp [bodyPost,results,Tryz.results90,go_sem,b1,b2,b3]
 refine ⟨?_,HCY.out.set3_ (by omega) (by omega) (by have:=HCS.out.bel.size;omega) _ _ _,gb_set3 GBY.out (by omega) _ _ _⟩
 rfl):P:=h
theorem cheap_go {l:List Nd} {x:D} (hd:Doc l x) {gp:Nat} {A:Option Addr} {c:Nat} (w0:World) (hpl:IsPlan w0 gp A c l) (hnl:Nds w0 w0.heap.size A l) {gs bm W:Nat} (hW:W<=100) {K:List (D × Int)} (ih:∀ y,y<szK K->CheapSaid w0 gs gp bm W l y) {i col:Nat} {w:World} (hrep:Rep l i K) (hcs:CS w0 gs gp bm W l w) (hcol:col+3300*szK K<=2000000)
  {f:Value->Option Value} (hmf:MapF Tryz.prog 173 f bm w) (hv:f (spotV i col)=none) (hlt:i<l.length) (ho:l[i].op≠8/\l[i].op≠9) :
  Calls Tryz.prog 90 #[.pointer (some ⟨gs,0,none⟩),spotV i col] w (CheapTo w0 gs gp bm W l (courseV (bestC W K col) (choiceOf l i (bestU W K col))) w):=by
 have h400:=hd.len
 obtain ⟨kl,hkl⟩:=spot_key (i:=i) (col:=col) (by omega) (by omega)
 obtain ⟨txt,nx,K',hst,hwk,hpt,hpc⟩:=best_go (gp:=gp) (A:=A) (c:=c) hd hrep hlt ho
 obtain ⟨hbu,hbc⟩:=best_step hst hwk W col
 have hch:choiceOf l i (bestU W K col)=0:=by
  unfold choiceOf
  rw [dif_pos hlt,if_neg]
  rintro (h|h)
  ·exact ho.1 h
  ·exact ho.2 h
 have hsz:=hst.2.1
 have htx:=hst.2.2.1
 have hcl:=colOf_le txt.data.toList col
 have hle:=bestC_le W K' (colOf col txt.data.toList) (hd.text_le _ nx K' (Nat.le_refl _) hst.1)
 have ho0:=ovr_le W txt.data.toList col
 have hl0:=lns_le txt.data.toList
 have etx:txt.data.toList.length=txt.size:=by simp
 have hcheap:=ih (szK K') hsz K' (Nat.le_refl _) nx (colOf col txt.data.toList)
 have HREPN:=hd_ hst.1
 have hputc:=fun (W':World) hb=>put_any (gs:=gs) (gp:=gp) (bm:=bm) (W:=W) (col:=col) hpt (by omega) (by omega) hW W' hb
 have hres:courseV (bestC W K col) (choiceOf l i (bestU W K col))=.agg #[.int .i64 ((cAdd (cst W col txt.data.toList) (bestC W K' (colOf col txt.data.toList))).1:Nat),.int .i64 ((cAdd (cst W col txt.data.toList) (bestC W K' (colOf col txt.data.toList))).2:Nat),.int .i64 0]:=by rw [hbc,hch];rfl
 have hknown:∀ f':Value->Option Value,KnownC l W f'->KnownC l W (putF f' (.agg #[.int .i64 (i:Nat),.int .i64 (col:Nat)]) (.agg #[.int .i64 ((cAdd (cst W col txt.data.toList) (bestC W K' (colOf col txt.data.toList))).1:Nat),.int .i64 ((cAdd (cst W col txt.data.toList) (bestC W K' (colOf col txt.data.toList))).2:Nat),.int .i64 0])):=fun f' hk=>by
  have:=hk.put (i:=i) (col:=col) hrep
  rw [hres] at this
  exact this
 rw [hres]
 have hplus:=fun (W':World)=>plus_any (cst W col txt.data.toList) (bestC W K' (colOf col txt.data.toList)) (by simp only [cst];omega) (by simp only [cst];omega) W'
 unfold courseV spotV at hcheap
 have hcb:(colOf col txt.data.toList)+3300*szK K'<=2000000:=by omega
 generalize hchN:choiceOf l nx (bestU W K' (colOf col txt.data.toList))=chN at *
 generalize hc0:cst W col txt.data.toList=c0 at *
 generalize hc1:bestC W K' (colOf col txt.data.toList)=c1 at *
 generalize hco:colOf col txt.data.toList=colN at *
 obtain ⟨c0a,c0b⟩:=c0
 obtain ⟨c1a,c1b⟩:=c1
 simp only [cAdd,Int.natCast_add] at *
 have HCH:=hd_ hcheap;have HPUT:=hd_ hputc;have HPL:=hd_ hplus;have HKN:=hd_ hknown;have HPC:=hd_ hpc
 clear hcheap hputc hplus hknown hpc hst hwk hbu hbc hch hsz htx hcl hle ho0 hl0 etx hres hc0 hc1 hco hchN hpt ih
 have hml:=hcs.mlt
 have hms:=hcs.ms
 have hsl:=lt_of_heap hcs.blk
 obtain ⟨gn,gd,ge,gf',gi,cf,ci,hpa⟩:=hpl.past hcs.bel
 have z0:=hpa.c0
 have hgp:=hpa.lp
 have hne:((i:Int)==(l.length:Int))=false:=by rw [beq_eq_false_iff_ne];omega
 have y0:=blk_cell (j:=0) hcs.blk
 have y2:=blk_cell (j:=2) hcs.blk
 simp at y0 y2
 have hb1:∀ o1 o2,Below w.heap.size w ((w.alloc o1).alloc o2):=fun o1 o2=>((Below.refl _ _).alloc (Nat.le_refl _) _).alloc (by simp) _
 have HW:∀ (o2:Obj) W',Below (((w.alloc (.cells #[.int .i64 (i:Nat),.int .i64 (col:Nat)] 173)).alloc o2).heap.size) ((w.alloc (.cells #[.int .i64 (i:Nat),.int .i64 (col:Nat)] 173)).alloc o2) W'->HeadIs gs gp bm A c l.length w.heap.size i col f W':=fun o2 W' hW'=>by
  exact rq29
 unfold HeadIs at HW
 simp only [hv,Option.getD_none,Option.isSome_none] at HW
 unfold spotV
 have HBX:Hid (∀ W',Below (((w.alloc (.cells #[.int .i64 (i:Nat),.int .i64 (col:Nat)] 173)).alloc (.cells #[.int .i64 0,.int .i64 0,.int .i64 0] 170)).heap.size) ((w.alloc (.cells #[.int .i64 (i:Nat),.int .i64 (col:Nat)] 173)).alloc (.cells #[.int .i64 0,.int .i64 0,.int .i64 0] 170)) W'->W'.heap[w.heap.size]?=some (.cells #[.int .i64 (i:Nat),.int .i64 (col:Nat)] 173 (0,0))/\W'.heap[w.heap.size+1]?=some (.cells #[.int .i64 0,.int .i64 0,.int .i64 0] 170 (0,0))) :=
  hd_ (fun W' hb=>⟨blk_below ((Below.heap_alloc _ _ _ (by simp)).trans (heap_new rfl)) hb,blk_below (heap_new (by simp)) hb⟩)
 have HGS:Hid (∀ W',Below w.heap.size w W'->W'.heap[gs]?=some (.cells #[.pointer (some ⟨gp,0,none⟩),.int .i64 (W:Nat),.map (some bm)] 168 (0,0))):=hd_ (fun W' hb=>blk_below hcs.blk hb)
 have HMF:=hd_ hmf
 have HWW:=hd_ HW
 have HCS:=hd_ hcs;have HKL:=hd_ hkl
 have HPN:Hid (∀ W',Below w.heap.size w W'->IsPlan W' gp A c l/\Nds W' W'.heap.size A l):=hd_ (fun W' hb=>⟨hpl.past (hcs.bel.trans (hb.mono hcs.bel.size)),hnl.past (hcs.bel.trans (hb.mono hcs.bel.size))⟩)
 clear HW hpa hkl hcs hmf hv hpl hd y0 y2 z0 hrep hnl
 go_enter Tryz.func90,Tryz.ntmps90
 go_wp2
 obtain ⟨q0,q2,z0,x0,x1,hl⟩:=HWW.out (.cells #[.int .i64 0,.int .i64 0,.int .i64 0] 170) _ (Below.refl _ _)
 clear hl
 go_quiet (fail)
 go_upto_region 3 with fail
 have hlk:∀ n:Nat,(Instr.lookup 166 (.map (some bm)) (.agg #[.int .i64 (i:Nat),.int .i64 (col:Nat)]) true).run Tryz.prog (((w.alloc (.cells #[.int .i64 (i:Nat),.int .i64 (col:Nat)] 173)).alloc (.cells #[.int .i64 0,.int .i64 0,.int .i64 0] 170)).drewN n)=.ok (.tuple #[.agg #[.int .i64 0,.int .i64 0,.int .i64 0],.bool false]) (((w.alloc (.cells #[.int .i64 (i:Nat),.int .i64 (col:Nat)] 173)).alloc (.cells #[.int .i64 0,.int .i64 0,.int .i64 0] 170)).drewN n) :=
  fun n=>(HWW.out _ _ (below_drewN (Below.refl _ _) n)).2.2.2.2.2
 have hlk2:∀ n:Nat,(Instr.lookup 166 (.map (some bm)) (.agg #[.int .i64 (i:Nat),.int .i64 (col:Nat)]) true).run Tryz.prog ((((w.alloc (.cells #[.int .i64 (i:Nat),.int .i64 (col:Nat)] 173)).alloc (.cells #[.int .i64 0,.int .i64 0,.int .i64 0] 170)).drewN n).alloc (.cells #[.int .i64 0,.int .i64 0,.int .i64 0] 170))=.ok (.tuple #[.agg #[.int .i64 0,.int .i64 0,.int .i64 0],.bool false]) ((((w.alloc (.cells #[.int .i64 (i:Nat),.int .i64 (col:Nat)] 173)).alloc (.cells #[.int .i64 0,.int .i64 0,.int .i64 0] 170)).drewN n).alloc (.cells #[.int .i64 0,.int .i64 0,.int .i64 0] 170)) :=
  fun n=>(HWW.out (.cells #[.int .i64 0,.int .i64 0,.int .i64 0] 170) ((((w.alloc (.cells #[.int .i64 (i:Nat),.int .i64 (col:Nat)] 173)).alloc (.cells #[.int .i64 0,.int .i64 0,.int .i64 0] 170)).drewN n).alloc (.cells #[.int .i64 0,.int .i64 0,.int .i64 0] 170)) bel_).2.2.2.2.2
 go_cut [6] from 31 to 39 (fun s6 wx=>s6=.bool false/\Below w.heap.size w wx/\wx.heap[w.heap.size]?=some (.cells #[.int .i64 (i:Nat),.int .i64 (col:Nat)] 173 (0,0))/\wx.heap[w.heap.size+1]?=some (.cells #[.int .i64 0,.int .i64 0,.int .i64 0] 170 (0,0)))
 case first =>
  exact rq28
 case rest =>
  obtain ⟨rfl,hBx,hX,hR⟩:=hcut
  clear hlk hlk2 x0 x1 z0 q0 q2 HBX HWW
  go_wp2_with fail
  refine wp_named (fun w3=>Below w.heap.size w w3/\w3.heap[w.heap.size]?=some (.cells #[.int .i64 (i:Nat),.int .i64 (col:Nat)] 173 (0,0))/\w3.heap[w.heap.size+1]?=some (.cells #[.int .i64 0,.int .i64 0,.int .i64 0] 170 (0,0))/\w3.heap[wc.heap.size]?=some (.cells #[.int .i64 0,.int .i64 0,.int .i64 (-1)] 170 (0,0)))
   ⟨hBx.alloc hBx.size _,(Below.heap_alloc _ _ _ (lt_of_heap hX)).trans hX,(Below.heap_alloc _ _ _ (lt_of_heap hR)).trans hR,heap_new rfl⟩ ?_
  rintro w3 ⟨hB3,hX3,hR3,h73⟩
  obtain ⟨b7,hb7⟩:∃ b7,wc.heap.size=b7:=⟨_,rfl⟩
  rw [hb7] at h73 ⊢
  have hb7':w.heap.size+2<=b7:=by rw [← hb7];exact lt_of_heap hR
  clear hb7 hX hR hBx
  have e0:=blk_cell (j:=0) (HGS.out w3 hB3)
  have e1:=blk_cell (j:=0) hX3
  simp at e0 e1
  go_region_held3 (fun w'=>w'.cell? ⟨gs,0,none⟩=some (.pointer (some ⟨gp,0,none⟩))/\w'.cell? ⟨w.heap.size,0,none⟩=some (.int .i64 (i:Nat)))
   (first|exact ⟨e0,e1⟩|exact ⟨e0',e1'⟩)
   ((go_at_call 159;refine (HPC.out _ (HPN.out _ bel_).1 (HPN.out _ bel_).2).mono ?_;rintro e w4 ⟨rfl,hB4⟩;have e0':=(hB4.cell (p:=⟨gs,0,none⟩) (lt_of_heap (HGS.out w3 hB3))).trans e0;have e1':=(hB4.cell (p:=⟨w.heap.size,0,none⟩) (lt_of_heap hX3)).trans e1))
  have hB34:Below w3.heap.size w3 w4:=by first|exact hB4|exact past_drew hB4|exact past_drewN hB4
  have hB4':=hB3.trans (hB34.mono hB3.size)
  have hX4:=blk_below hX3 hB34
  have hR4:=blk_below hR3 hB34
  have h74:=blk_below h73 hB34
  have e2:=blk_cell (j:=1) hX4
  simp at e2
  clear hB4 hB34 hB3 hX3 hR3 h73 e0 e1 e0' e1'
  go_wp2_with (go_at_call 160;refine (HPUT.out _ (HGS.out _ hB4')).mono ?_;rintro e w5 ⟨rfl,hB5⟩)
  have hX5:=blk_below hX4 hB5
  have hR5:=blk_below hR4 hB5
  have h75:=blk_below h74 hB5
  have hB5':=hB4'.trans (hB5.mono hB4'.size)
  clear hX4 hR4 h74 hB4' hB5 e2
  refine wp_named (fun w6=>Below w.heap.size w w6/\w6.heap[w.heap.size]?=some (.cells #[.int .i64 (i:Nat),.int .i64 (col:Nat)] 173 (0,0))/\w6.heap[w.heap.size+1]?=some (.cells #[.int .i64 0,.int .i64 0,.int .i64 0] 170 (0,0))/\w6.heap[b7]?=some (.cells #[.int .i64 0,.int .i64 0,.int .i64 (-1)] 170 (0,0))/\w6.heap[w5.heap.size]?=some (.cells #[.int .i64 (c0a:Nat),.int .i64 (c0b:Nat)] 113 (0,0)))
   ⟨hB5'.alloc hB5'.size _,(Below.heap_alloc _ _ _ (lt_of_heap hX5)).trans hX5,(Below.heap_alloc _ _ _ (lt_of_heap hR5)).trans hR5,(Below.heap_alloc _ _ _ (lt_of_heap h75)).trans h75,heap_new rfl⟩ ?_
  rintro w6 ⟨hB6,hX6,hR6,h76,h116⟩
  obtain ⟨b11,hb11⟩:∃ b11,w5.heap.size=b11:=⟨_,rfl⟩
  rw [hb11] at h116 ⊢
  have hb11':b7<b11:=by rw [← hb11];exact lt_of_heap h75
  clear hb11 hX5 hR5 h75 hB5'
  have hfld:=course_cost
  have HC6:Hid (∀ W',Below w6.heap.size w6 W'->CS w0 gs gp bm W l W'):=hd_ (fun W' hb=>(HCS.out.past hB6).past hb)
  have f0:=blk_cell (j:=0) h116
  have f1:=blk_cell (j:=1) h116
  simp at f0 f1
  go_region_held3 (fun w'=>w'.cell? ⟨b11,0,none⟩=some (.int .i64 (c0a:Nat))/\w'.cell? ⟨b11,1,none⟩=some (.int .i64 (c0b:Nat)))
   (first|exact ⟨f0,f1⟩|exact ⟨f0',f1'⟩|exact ⟨f0'',f1''⟩|(refine ⟨?_, ?_⟩ <;> (rw [World.cell?_setCell_other _ _ _ _ (by first|(simp;done)|(simp;omega)),World.cell?_setCell_other _ _ _ _ (by first|(simp;done)|(simp;omega)),World.cell?_setCell_other _ _ _ _ (by first|(simp;done)|(simp;omega))];first|exact f0''|exact f1'')))
   (first
    | (go_at_call 90;refine (HCH.out _ HREPN.out (HC6.out _ bel_) hcb).mono ?_;rintro e w7 ⟨rfl,hcs7,hg7⟩;have HC7:=hd_ hcs7;have HG7:=hd_ hg7;have h117:=blk_gb' hg7 h116 (by omega);have f0':=(show w7.cell? ⟨b11,0,none⟩=some (.int .i64 (c0a:Nat)) from blk_cell (j:=0) h117);have f1':=(show w7.cell? ⟨b11,1,none⟩=some (.int .i64 (c0b:Nat)) from blk_cell (j:=1) h117);clear hcs7 hg7)
    | (go_at_call 161;refine (HPL.out _).mono ?_;rintro e w8 ⟨rfl,hB8⟩;have HB8:=hd_ hB8;have f0'':=(hB8.cell (p:=⟨b11,0,none⟩) (lt_of_heap h117)).trans f0';have f1'':=(hB8.cell (p:=⟨b11,1,none⟩) (lt_of_heap h117)).trans f1';have h78:=blk_below (blk_gb' HG7.out h76 (by omega)) hB8;have g0:w8.cell? ⟨b7,0,none⟩=some (.int .i64 0):=blk_cell (j:=0) h78;have g1:w8.cell? ⟨b7,1,none⟩=some (.int .i64 0):=blk_cell (j:=1) h78;have g2:w8.cell? ⟨b7,2,none⟩=some (.int .i64 (-1)):=blk_cell (j:=2) h78;have k0:=blk_free (j:=0) h78;have k1:=blk_free (j:=1) h78;have k2:=blk_free (j:=2) h78;clear hB8))
  clear f0 f1 f0' f1' f0'' f1'' hfld
  have hB78:Below w7.heap.size w7 w8:=by first|exact HB8.out|exact past_drew HB8.out|exact past_drewN HB8.out
  have gb7:w.grownBy w7 (some bm):=grown_trans (gb_of_below bel_ bm) HG7.out
  have gb8:=gb_below gb7 hB78
  have hC8:=HC7.out.past hB78
  have hX8:=blk_below (blk_gb' HG7.out hX6 (by omega)) hB78
  have hR8:=blk_below (blk_gb' HG7.out hR6 (by omega)) hB78
  clear h117 g0 g1 g2 k0 k1 k2 HB8 HG7 HC7 gb7 hB78 hB6 hX6 hR6 h76 h116 HC6
  refine then_named (fun w9=>CS w0 gs gp bm W l w9/\w.grownBy w9 (some bm)/\w9.heap[w.heap.size]?=some (.cells #[.int .i64 (i:Nat),.int .i64 (col:Nat)] 173 (0,0))/\w9.heap[w.heap.size+1]?=some (.cells #[.int .i64 0,.int .i64 0,.int .i64 0] 170 (0,0))/\w9.heap[b7]?=some (.cells #[.int .i64 ((c0a:Int)+(c1a:Int)),.int .i64 ((c0b:Int)+(c1b:Int)),.int .i64 0] 170 (0,0))) ?c1 ?c2
  case c1=>exact ⟨hC8.set3_ (by omega) (by omega) (by have:=HCS.out.bel.size;omega) _ _ _,gb_set3 gb8 (by omega) _ _ _,blk_far3 hX8 (by omega) _ _ _,blk_far3 hR8 (by omega) _ _ _,blk_set3 h78⟩
  case c2 =>
   rintro w9 ⟨hC9,gb9,hX9,hR9,h79⟩
   clear hC8 gb8 hX8 hR8 h78
   have HC9:=hd_ hC9;have GB9:=hd_ gb9
   clear hC9 gb9
   go_wp2_with fail
   go_loopw [13] (fun s13 wr=>s13=.int .i64 0/\wr=w9) (fun _ _=>0)
   case atStart=>exact ⟨rfl,rfl⟩
   case round =>
    obtain ⟨rfl,rfl⟩:=hrel
    go_wp2_with fail
    obtain ⟨f',hm',hk'⟩:=HC9.out.map
    obtain ⟨o,ho⟩:=hm'.store spotLaw Tryz.underlying166 HKL.out (.agg #[.int .i64 ((c0a:Int)+(c1a:Int)),.int .i64 ((c0b:Int)+(c1b:Int)),.int .i64 0])
    unfold spotV at ho
    have HO:=hd_ ho
    have hk2:=HKN.out f' hk'
    have HK2:=hd_ hk2
    have hup:(Instr.mapUpdate 166 (.map (some bm)) (.agg #[.int .i64 (i:Nat),.int .i64 (col:Nat)]) (.agg #[.int .i64 ((c0a:Int)+(c1a:Int)),.int .i64 ((c0b:Int)+(c1b:Int)),.int .i64 0])).run Tryz.prog wr.drew=.ok () (setBlock wr.drew bm o):=(ho wr.drew rfl).1
    have v0:wr.cell? ⟨gs,2,none⟩=some (.map (some bm)):=blk_cell (j:=2) HC9.out.blk
    have v1:wr.cell? ⟨w.heap.size,0,none⟩=some (.int .i64 (i:Nat)):=blk_cell (j:=0) hX9
    have v2:wr.cell? ⟨w.heap.size,1,none⟩=some (.int .i64 (col:Nat)):=blk_cell (j:=1) hX9
    have v3:wr.cell? ⟨b7,0,none⟩=some (.int .i64 ((c0a:Int)+(c1a:Int))):=blk_cell (j:=0) h79
    have v4:wr.cell? ⟨b7,1,none⟩=some (.int .i64 ((c0b:Int)+(c1b:Int))):=blk_cell (j:=1) h79
    have v5:wr.cell? ⟨b7,2,none⟩=some (.int .i64 0):=blk_cell (j:=2) h79
    have far:∀ (g:Nat) (x:Obj),g≠bm->wr.heap[g]?=some x->(setBlock wr.drew bm o).heap[g]?=some x:=fun g x hne hg=>blk_gb' (HO.out wr.drew rfl).2.2 hg hne
    have FAR:=hd_ far
    have u0:(setBlock wr.drew bm o).cell? ⟨gs,2,none⟩=some (.map (some bm)):=blk_cell (j:=2) (far gs _ hms HC9.out.blk)
    have u1:(setBlock wr.drew bm o).cell? ⟨w.heap.size,0,none⟩=some (.int .i64 (i:Nat)):=blk_cell (j:=0) (far _ _ (by omega) hX9)
    have u2:(setBlock wr.drew bm o).cell? ⟨w.heap.size,1,none⟩=some (.int .i64 (col:Nat)):=blk_cell (j:=1) (far _ _ (by omega) hX9)
    have u3:(setBlock wr.drew bm o).cell? ⟨b7,0,none⟩=some (.int .i64 ((c0a:Int)+(c1a:Int))):=blk_cell (j:=0) (far _ _ (by omega) h79)
    have u4:(setBlock wr.drew bm o).cell? ⟨b7,1,none⟩=some (.int .i64 ((c0b:Int)+(c1b:Int))):=blk_cell (j:=1) (far _ _ (by omega) h79)
    have u5':(setBlock wr.drew bm o).cell? ⟨b7,2,none⟩=some (.int .i64 0):=blk_cell (j:=2) (far _ _ (by omega) h79)
    clear ho hk2 hk' hm' far
    go_region_held3 (fun w'=>w'.cell? ⟨gs,2,none⟩=some (.map (some bm))/\w'.cell? ⟨w.heap.size,0,none⟩=some (.int .i64 (i:Nat))/\w'.cell? ⟨w.heap.size,1,none⟩=some (.int .i64 (col:Nat))/\w'.cell? ⟨b7,0,none⟩=some (.int .i64 ((c0a:Int)+(c1a:Int)))/\w'.cell? ⟨b7,1,none⟩=some (.int .i64 ((c0b:Int)+(c1b:Int)))/\w'.cell? ⟨b7,2,none⟩=some (.int .i64 0))
     (first|exact ⟨v0,v1,v2,v3,v4,v5⟩|exact ⟨u0,u1,u2,u3,u4,u5'⟩) (fail)
    clear hup u0 u1 u2 u3 u4 u5' v0 v1 v2 v3 v4 v5
    refine then_named (fun wy=>CS w0 gs gp bm W l wy/\w.grownBy wy (some bm)/\wy.heap[w.heap.size+1]?=some (.cells #[.int .i64 0,.int .i64 0,.int .i64 0] 170 (0,0))/\wy.heap[b7]?=some (.cells #[.int .i64 ((c0a:Int)+(c1a:Int)),.int .i64 ((c0b:Int)+(c1b:Int)),.int .i64 0] 170 (0,0))) ⟨HC9.out.store HO.out HK2.out 1,grown_trans (gb_drew GB9.out) (HO.out wr.drew rfl).2.2,FAR.out _ _ (by omega) hR9,FAR.out _ _ (by omega) h79⟩ ?_
    rintro wy ⟨hCy,gby,hRy,h7y⟩
    have a0:=blk_cell (j:=0) h7y
    have a1:=blk_cell (j:=1) h7y
    have a2:=blk_cell (j:=2) h7y
    have a3:=blk_cell (j:=0) hRy
    have a4:=blk_cell (j:=1) hRy
    have a5:=blk_cell (j:=2) hRy
    have a6:=blk_free (j:=0) hRy
    have a7:=blk_free (j:=1) hRy
    have a8:=blk_free (j:=2) hRy
    simp at a0 a1 a2 a3 a4 a5
    have HCY:=hd_ hCy;have GBY:=hd_ gby;have HRY:=hd_ hRy
    clear hCy gby hRy h7y hX9 hR9 h79
    go_wp2
    have b0:=blk_set3 (p:=.int .i64 ((c0a:Int)+(c1a:Int))) (q:=.int .i64 ((c0b:Int)+(c1b:Int))) (r:=.int .i64 0) HRY.out
    exact rq34
end Go.Proofs.YtddfdmopaeghnadGreatDoor
namespace Go.Proofs.YtddfdmopaeghnadGreatDoor
open Go.RowKit Go.Maps Go.ChangeMaps
def set2 (w:World) (b:Nat) (p q:Value):World:=(w.setCell ⟨b,0,none⟩ p).setCell ⟨b,1,none⟩ q
theorem CS.set2_ {w0 w:World} {gs gp bm W b:Nat} {l:List Nd} (h:CS w0 gs gp bm W l w) (h1:b≠gs) (h2:b≠bm) (h3:w0.heap.size<=b) (p q:Value):CS w0 gs gp bm W l (set2 w b p q) :=
 (h.set (p:=⟨b,0,none⟩) h1 h2 h3 p).set (p:=⟨b,1,none⟩) h1 h2 h3 q
theorem gb_set2 {a w:World} {m b:Nat} (h:a.grownBy w (some m)) (hb:a.heap.size<=b) (p q:Value):a.grownBy (set2 w b p q) (some m) :=
 gb_set (gb_set h (p:=⟨b,0,none⟩) hb p) (p:=⟨b,1,none⟩) hb q
theorem blk_far2 {w:World} {g b:Nat} {o:Obj} (h:w.heap[g]?=some o) (hne:g≠b) (p q:Value):(set2 w b p q).heap[g]?=some o :=
 blk_set (blk_set h ⟨b,0,none⟩ p hne) ⟨b,1,none⟩ q hne
theorem blk_set2 {w:World} {b:Nat} {x y p q:Value} {T:TypeId} {fr:Nat × Nat} (h:w.heap[b]?=some (.cells #[x,y] T fr)):((w.setCell ⟨b,0,none⟩ p).setCell ⟨b,1,none⟩ q).heap[b]?=some (.cells #[p,q] T fr):=by
 simp [World.setCell,Array.getElem?_modify,h]
theorem rq26 {P:Prop} (h:P:=by
 ·have H7:=hd_ h7c
  clear h7c
  go_wp2_with fail
  obtain ⟨f',hm',hk'⟩:=HC.out.map
  obtain ⟨o,ho⟩:=hm'.store spotLaw Tryz.underlying166 HKL.out (.agg #[.int .i64 (pa1:Nat),.int .i64 (pb1:Nat),.int .i64 1])
  unfold spotV at ho
  have HO:=hd_ ho
  have hk2:=HKN.out f' hk'
  have HK2:=hd_ hk2
  have hup:(Instr.mapUpdate 166 (.map (some bm)) (.agg #[.int .i64 (i:Nat),.int .i64 (col:Nat)]) (.agg #[.int .i64 (pa1:Nat),.int .i64 (pb1:Nat),.int .i64 1])).run Tryz.prog wr.drew=.ok () (setBlock wr.drew bm o):=(ho wr.drew rfl).1
  have v0:wr.cell? ⟨gs,2,none⟩=some (.map (some bm)):=blk_cell (j:=2) HC.out.blk
  have v1:wr.cell? ⟨w.heap.size,0,none⟩=some (.int .i64 (i:Nat)):=blk_cell (j:=0) HX.out
  have v2:wr.cell? ⟨w.heap.size,1,none⟩=some (.int .i64 (col:Nat)):=blk_cell (j:=1) HX.out
  have v3:wr.cell? ⟨b7,0,none⟩=some (.int .i64 (pa1:Nat)):=blk_cell (j:=0) H7.out
  have v4:wr.cell? ⟨b7,1,none⟩=some (.int .i64 (pb1:Nat)):=blk_cell (j:=1) H7.out
  have v5:wr.cell? ⟨b7,2,none⟩=some (.int .i64 1):=blk_cell (j:=2) H7.out
  have far:∀ (g:Nat) (x:Obj),g≠bm->wr.heap[g]?=some x->(setBlock wr.drew bm o).heap[g]?=some x:=fun g x hne hg=>blk_gb' (HO.out wr.drew rfl).2.2 hg hne
  have FAR:=hd_ far
  have u0:(setBlock wr.drew bm o).cell? ⟨gs,2,none⟩=some (.map (some bm)):=blk_cell (j:=2) (far gs _ hms HC.out.blk)
  have u1:(setBlock wr.drew bm o).cell? ⟨w.heap.size,0,none⟩=some (.int .i64 (i:Nat)):=blk_cell (j:=0) (far _ _ (by omega) HX.out)
  have u2:(setBlock wr.drew bm o).cell? ⟨w.heap.size,1,none⟩=some (.int .i64 (col:Nat)):=blk_cell (j:=1) (far _ _ (by omega) HX.out)
  have u3:(setBlock wr.drew bm o).cell? ⟨b7,0,none⟩=some (.int .i64 (pa1:Nat)):=blk_cell (j:=0) (far _ _ (by omega) H7.out)
  have u4:(setBlock wr.drew bm o).cell? ⟨b7,1,none⟩=some (.int .i64 (pb1:Nat)):=blk_cell (j:=1) (far _ _ (by omega) H7.out)
  have u5':(setBlock wr.drew bm o).cell? ⟨b7,2,none⟩=some (.int .i64 1):=blk_cell (j:=2) (far _ _ (by omega) H7.out)
  clear ho hk2 hk' hm' far
  go_region_held3 (fun w'=>w'.cell? ⟨gs,2,none⟩=some (.map (some bm))/\w'.cell? ⟨w.heap.size,0,none⟩=some (.int .i64 (i:Nat))/\w'.cell? ⟨w.heap.size,1,none⟩=some (.int .i64 (col:Nat))/\w'.cell? ⟨b7,0,none⟩=some (.int .i64 (pa1:Nat))/\w'.cell? ⟨b7,1,none⟩=some (.int .i64 (pb1:Nat))/\w'.cell? ⟨b7,2,none⟩=some (.int .i64 1))
   (first|exact ⟨v0,v1,v2,v3,v4,v5⟩|exact ⟨u0,u1,u2,u3,u4,u5'⟩) (fail)
  clear hup u0 u1 u2 u3 u4 u5' v0 v1 v2 v3 v4 v5
  refine then_named (fun wy=>CS w0 gs gp bm W l wy/\w.grownBy wy (some bm)/\wy.heap[w.heap.size+1]?=some (.cells #[.int .i64 0,.int .i64 0,.int .i64 0] 170 (0,0))/\wy.heap[b7]?=some (.cells #[.int .i64 (pa1:Nat),.int .i64 (pb1:Nat),.int .i64 1] 170 (0,0))) ⟨HC.out.store HO.out HK2.out 1,grown_trans (gb_drew GB.out) (HO.out wr.drew rfl).2.2,FAR.out _ _ (by omega) HR.out,FAR.out _ _ (by omega) H7.out⟩ ?_
  rintro wy ⟨hCy,gby,hRy,h7y⟩
  have a0:=blk_cell (j:=0) h7y
  have a1:=blk_cell (j:=1) h7y
  have a2:=blk_cell (j:=2) h7y
  have a3:=blk_cell (j:=0) hRy
  have a4:=blk_cell (j:=1) hRy
  have a5:=blk_cell (j:=2) hRy
  have a6:=blk_free (j:=0) hRy
  have a7:=blk_free (j:=1) hRy
  have a8:=blk_free (j:=2) hRy
  simp at a0 a1 a2 a3 a4 a5
  have HCY:=hd_ hCy;have GBY:=hd_ gby;have HRY:=hd_ hRy
  clear hCy gby hRy h7y HX HR H7
  go_wp2
  have b0:=blk_set3 (p:=.int .i64 (pa1:Nat)) (q:=.int .i64 (pb1:Nat)) (r:=.int .i64 1) HRY.out
  have b1:=blk_cell (j:=0) b0
  have b2:=blk_cell (j:=1) b0
  have b3:=blk_cell (j:=2) b0
  simp at b1 b2 b3
  simp [bodyPost,results,Tryz.results90,go_sem,b1,b2,b3]
  refine ⟨?_,HCY.out.set3_ (by omega) (by omega) (by have:=HCS.out.bel.size;omega) _ _ _,gb_set3 GBY.out (by omega) _ _ _⟩
  rfl):P:=h
theorem ask_no {l:List Nd} (h400:l.length<=400) {gp:Nat} {A:Option Addr} {c:Nat} (w0:World) (hpl:IsPlan w0 gp A c l) (hnl:Nds w0 w0.heap.size A l) {gs bm W:Nat} {i col:Nat} {w:World} (hcs:CS w0 gs gp bm W l w) (hcol:col<=2000000)
  {f:Value->Option Value} (hmf:MapF Tryz.prog 173 f bm w) (hv:f (spotV i col)=none) (hlt:i<l.length) {t0 t1:ByteArray} {i0 i1 ea1 eb1 col1 da1 db1 pa1 pb1:Nat} {ch1:Int}
  (hpc:∀ w,IsPlan w gp A c l->Nds w w.heap.size A l->Calls Tryz.prog 159 #[.pointer (some ⟨gp,0,none⟩),.int .i64 i] w (Ret w (.tuple #[.string t1,.int .i64 (i:Nat),.bool true])))
  (hch0:∀ w,IsPlan w gp A c l->Nds w w.heap.size A l->Calls Tryz.prog 162 #[.pointer (some ⟨gp,0,none⟩),.int .i64 i,.int .i64 0] w (Ret w (.tuple #[.string t0,.int .i64 (i0:Nat),.bool false])))
  (hch1:∀ w,IsPlan w gp A c l->Nds w w.heap.size A l->Calls Tryz.prog 162 #[.pointer (some ⟨gp,0,none⟩),.int .i64 i,.int .i64 1] w (Ret w (.tuple #[.string t1,.int .i64 (i1:Nat),.bool true])))
  (hput1:∀ W':World,W'.heap[gs]?=some (.cells #[.pointer (some ⟨gp,0,none⟩),.int .i64 (W:Nat),.map (some bm)] 168 (0,0))->Calls Tryz.prog 160 #[.pointer (some ⟨gs,0,none⟩),.string t1,.int .i64 (col:Nat)] W' (Ret W' (.tuple #[.agg #[.int .i64 (ea1:Nat),.int .i64 (eb1:Nat)],.int .i64 (col1:Nat)])))
  (hcp1:∀ W':World,CS w0 gs gp bm W l W'->Calls Tryz.prog 90 #[.pointer (some ⟨gs,0,none⟩),.agg #[.int .i64 (i1:Nat),.int .i64 (col1:Nat)]] W' (CheapTo w0 gs gp bm W l (.agg #[.int .i64 (da1:Nat),.int .i64 (db1:Nat),.int .i64 ch1]) W'))
  (hpl1:∀ W':World,Calls Tryz.prog 161 #[.agg #[.int .i64 (ea1:Nat),.int .i64 (eb1:Nat)],.agg #[.int .i64 (da1:Nat),.int .i64 (db1:Nat)]] W' (Ret W' (.agg #[.int .i64 (pa1:Nat),.int .i64 (pb1:Nat)])))
  (hkn:∀ f':Value->Option Value,KnownC l W f'->KnownC l W (putF f' (.agg #[.int .i64 (i:Nat),.int .i64 (col:Nat)]) (.agg #[.int .i64 (pa1:Nat),.int .i64 (pb1:Nat),.int .i64 1]))) :
  Calls Tryz.prog 90 #[.pointer (some ⟨gs,0,none⟩),spotV i col] w (CheapTo w0 gs gp bm W l (.agg #[.int .i64 (pa1:Nat),.int .i64 (pb1:Nat),.int .i64 1]) w):=by
 obtain ⟨kl,hkl⟩:=spot_key (i:=i) (col:=col) (by omega) (by omega)
 have HPC:=hd_ hpc;have HCH0:=hd_ hch0;have HCH1:=hd_ hch1;have HPUT1:=hd_ hput1;have HCP1:=hd_ hcp1;have HPL1:=hd_ hpl1;have HKN:=hd_ hkn
 clear hpc hch0 hch1 hput1 hcp1 hpl1 hkn
 have hml:=hcs.mlt
 have hms:=hcs.ms
 have hsl:=lt_of_heap hcs.blk
 obtain ⟨gn,gd,ge,gf',gi,cf,ci,hpa⟩:=hpl.past hcs.bel
 have z0:=hpa.c0
 have hgp:=hpa.lp
 have hne:((i:Int)==(l.length:Int))=false:=by rw [beq_eq_false_iff_ne];omega
 have y0:=blk_cell (j:=0) hcs.blk
 have y2:=blk_cell (j:=2) hcs.blk
 simp at y0 y2
 have hb1:∀ o1 o2,Below w.heap.size w ((w.alloc o1).alloc o2):=fun o1 o2=>((Below.refl _ _).alloc (Nat.le_refl _) _).alloc (by simp) _
 have HW:∀ (o2:Obj) W',Below (((w.alloc (.cells #[.int .i64 (i:Nat),.int .i64 (col:Nat)] 173)).alloc o2).heap.size) ((w.alloc (.cells #[.int .i64 (i:Nat),.int .i64 (col:Nat)] 173)).alloc o2) W'->HeadIs gs gp bm A c l.length w.heap.size i col f W':=fun o2 W' hW'=>by
  exact rq29
 unfold HeadIs at HW
 simp only [hv,Option.getD_none,Option.isSome_none] at HW
 unfold spotV
 have HBX:Hid (∀ W',Below (((w.alloc (.cells #[.int .i64 (i:Nat),.int .i64 (col:Nat)] 173)).alloc (.cells #[.int .i64 0,.int .i64 0,.int .i64 0] 170)).heap.size) ((w.alloc (.cells #[.int .i64 (i:Nat),.int .i64 (col:Nat)] 173)).alloc (.cells #[.int .i64 0,.int .i64 0,.int .i64 0] 170)) W'->W'.heap[w.heap.size]?=some (.cells #[.int .i64 (i:Nat),.int .i64 (col:Nat)] 173 (0,0))/\W'.heap[w.heap.size+1]?=some (.cells #[.int .i64 0,.int .i64 0,.int .i64 0] 170 (0,0))) :=
  hd_ (fun W' hb=>⟨blk_below ((Below.heap_alloc _ _ _ (by simp)).trans (heap_new rfl)) hb,blk_below (heap_new (by simp)) hb⟩)
 have HGS:Hid (∀ W',Below w.heap.size w W'->W'.heap[gs]?=some (.cells #[.pointer (some ⟨gp,0,none⟩),.int .i64 (W:Nat),.map (some bm)] 168 (0,0))):=hd_ (fun W' hb=>blk_below hcs.blk hb)
 have HWW:=hd_ HW
 have HCS:=hd_ hcs;have HKL:=hd_ hkl
 have HPN:Hid (∀ W',Below w0.heap.size w0 W'->IsPlan W' gp A c l/\Nds W' W'.heap.size A l):=hd_ (fun W' hb=>⟨hpl.past hb,hnl.past hb⟩)
 have HPN1:Hid (∀ W',Below w.heap.size w W'->IsPlan W' gp A c l/\Nds W' W'.heap.size A l):=hd_ (fun W' hb=>HPN.out W' (hcs.bel.trans (hb.mono hcs.bel.size)))
 clear HW hpa hkl hcs hmf hv hpl y0 y2 z0 hnl
 go_enter Tryz.func90,Tryz.ntmps90
 go_wp2
 obtain ⟨q0,q2,z0,x0,x1,hl⟩:=HWW.out (.cells #[.int .i64 0,.int .i64 0,.int .i64 0] 170) _ (Below.refl _ _)
 clear hl
 go_quiet (fail)
 go_upto_region 3 with fail
 have hlk:∀ n:Nat,(Instr.lookup 166 (.map (some bm)) (.agg #[.int .i64 (i:Nat),.int .i64 (col:Nat)]) true).run Tryz.prog (((w.alloc (.cells #[.int .i64 (i:Nat),.int .i64 (col:Nat)] 173)).alloc (.cells #[.int .i64 0,.int .i64 0,.int .i64 0] 170)).drewN n)=.ok (.tuple #[.agg #[.int .i64 0,.int .i64 0,.int .i64 0],.bool false]) (((w.alloc (.cells #[.int .i64 (i:Nat),.int .i64 (col:Nat)] 173)).alloc (.cells #[.int .i64 0,.int .i64 0,.int .i64 0] 170)).drewN n) :=
  fun n=>(HWW.out _ _ (below_drewN (Below.refl _ _) n)).2.2.2.2.2
 have hlk2:∀ n:Nat,(Instr.lookup 166 (.map (some bm)) (.agg #[.int .i64 (i:Nat),.int .i64 (col:Nat)]) true).run Tryz.prog ((((w.alloc (.cells #[.int .i64 (i:Nat),.int .i64 (col:Nat)] 173)).alloc (.cells #[.int .i64 0,.int .i64 0,.int .i64 0] 170)).drewN n).alloc (.cells #[.int .i64 0,.int .i64 0,.int .i64 0] 170))=.ok (.tuple #[.agg #[.int .i64 0,.int .i64 0,.int .i64 0],.bool false]) ((((w.alloc (.cells #[.int .i64 (i:Nat),.int .i64 (col:Nat)] 173)).alloc (.cells #[.int .i64 0,.int .i64 0,.int .i64 0] 170)).drewN n).alloc (.cells #[.int .i64 0,.int .i64 0,.int .i64 0] 170)) :=
  fun n=>(HWW.out (.cells #[.int .i64 0,.int .i64 0,.int .i64 0] 170) ((((w.alloc (.cells #[.int .i64 (i:Nat),.int .i64 (col:Nat)] 173)).alloc (.cells #[.int .i64 0,.int .i64 0,.int .i64 0] 170)).drewN n).alloc (.cells #[.int .i64 0,.int .i64 0,.int .i64 0] 170)) bel_).2.2.2.2.2
 go_cut [6] from 31 to 39 (fun s6 wx=>s6=.bool false/\Below w.heap.size w wx/\wx.heap[w.heap.size]?=some (.cells #[.int .i64 (i:Nat),.int .i64 (col:Nat)] 173 (0,0))/\wx.heap[w.heap.size+1]?=some (.cells #[.int .i64 0,.int .i64 0,.int .i64 0] 170 (0,0)))
 case first =>
  exact rq28
 case rest =>
  obtain ⟨rfl,hBx,hX,hR⟩:=hcut
  clear hlk hlk2 x0 x1 z0 q0 q2 HBX HWW
  go_wp2_with fail
  refine wp_named (fun w3=>Below w.heap.size w w3/\w3.heap[w.heap.size]?=some (.cells #[.int .i64 (i:Nat),.int .i64 (col:Nat)] 173 (0,0))/\w3.heap[w.heap.size+1]?=some (.cells #[.int .i64 0,.int .i64 0,.int .i64 0] 170 (0,0))/\w3.heap[wc.heap.size]?=some (.cells #[.int .i64 0,.int .i64 0,.int .i64 (-1)] 170 (0,0)))
   ⟨hBx.alloc hBx.size _,(Below.heap_alloc _ _ _ (lt_of_heap hX)).trans hX,(Below.heap_alloc _ _ _ (lt_of_heap hR)).trans hR,heap_new rfl⟩ ?_
  rintro w3 ⟨hB3,hX3,hR3,h73⟩
  obtain ⟨b7,hb7⟩:∃ b7,wc.heap.size=b7:=⟨_,rfl⟩
  rw [hb7] at h73 ⊢
  have hb7':w.heap.size+2<=b7:=by rw [← hb7];exact lt_of_heap hR
  clear hb7 hX hR hBx
  have e0:=blk_cell (j:=0) (HGS.out w3 hB3)
  have e1:=blk_cell (j:=0) hX3
  simp at e0 e1
  go_region_held3 (fun w'=>w'.cell? ⟨gs,0,none⟩=some (.pointer (some ⟨gp,0,none⟩))/\w'.cell? ⟨w.heap.size,0,none⟩=some (.int .i64 (i:Nat)))
   (first|exact ⟨e0,e1⟩|exact ⟨e0',e1'⟩)
   ((go_at_call 159;refine (HPC.out _ (HPN1.out _ bel_).1 (HPN1.out _ bel_).2).mono ?_;rintro e w4 ⟨rfl,hB4⟩;have e0':=(hB4.cell (p:=⟨gs,0,none⟩) (lt_of_heap (HGS.out w3 hB3))).trans e0;have e1':=(hB4.cell (p:=⟨w.heap.size,0,none⟩) (lt_of_heap hX3)).trans e1))
  have hB34:Below w3.heap.size w3 w4:=by first|exact hB4|exact past_drew hB4|exact past_drewN hB4
  have HC4:=hd_ (HCS.out.past (hB3.trans (hB34.mono hB3.size)))
  have GB4:=hd_ (gb_of_below (hB3.trans (hB34.mono hB3.size)) bm)
  have HX4:=hd_ (blk_below hX3 hB34)
  have HR4:=hd_ (blk_below hR3 hB34)
  have H74:=hd_ (blk_below h73 hB34)
  clear hB4 hB34 hB3 hX3 hR3 h73 e0 e1 e0' e1'
  go_wp2_with fail
  go_loopw [13] (fun s13 wr=>CS w0 gs gp bm W l wr/\w.grownBy wr (some bm)/\wr.heap[w.heap.size]?=some (.cells #[.int .i64 (i:Nat),.int .i64 (col:Nat)] 173 (0,0))/\wr.heap[w.heap.size+1]?=some (.cells #[.int .i64 0,.int .i64 0,.int .i64 0] 170 (0,0))/\((s13=.int .i64 0/\wr.heap[b7]?=some (.cells #[.int .i64 0,.int .i64 0,.int .i64 (-1)] 170 (0,0)))∨(s13=.int .i64 1/\wr.heap[b7]?=some (.cells #[.int .i64 0,.int .i64 0,.int .i64 (-1)] 170 (0,0)))∨(s13=.int .i64 2/\wr.heap[b7]?=some (.cells #[.int .i64 (pa1:Nat),.int .i64 (pb1:Nat),.int .i64 1] 170 (0,0))))) (fun s13 _=>2-(intOf s13).toNat)
  case atStart=>exact ⟨HC4.out,GB4.out,HX4.out,HR4.out,.inl ⟨rfl,H74.out⟩⟩
  case round =>
   obtain ⟨hcr,hgr,hxr,hrr,h7r⟩:=hrel
   have HC:=hd_ hcr;have GB:=hd_ hgr;have HX:=hd_ hxr;have HR:=hd_ hrr
   have HPW:Hid (∀ W',Below wr.heap.size wr W'->IsPlan W' gp A c l/\Nds W' W'.heap.size A l):=hd_ (fun W' hb=>HPN.out W' (hcr.bel.trans (hb.mono hcr.bel.size)))
   clear hcr hgr hxr hrr HC4 GB4 HX4 HR4 H74
   rcases h7r with ⟨rfl,h7c⟩|⟨rfl,h7c⟩|⟨rfl,h7c⟩
   ·have H7:=hd_ h7c
    clear h7c
    have e0:=blk_cell (j:=0) HC.out.blk
    have e1:=blk_cell (j:=0) HX.out
    simp at e0 e1
    go_wp2_with fail
    go_region_held3 (fun w'=>w'.cell? ⟨gs,0,none⟩=some (.pointer (some ⟨gp,0,none⟩))/\w'.cell? ⟨w.heap.size,0,none⟩=some (.int .i64 (i:Nat)))
     (first|exact ⟨e0,e1⟩|exact ⟨e0',e1'⟩)
     ((go_at_call 162;refine (HCH0.out _ (HPW.out _ bel_).1 (HPW.out _ bel_).2).mono ?_;rintro e w4 ⟨rfl,hB4⟩;have e0':=(hB4.cell (p:=⟨gs,0,none⟩) (lt_of_heap HC.out.blk)).trans e0;have e1':=(hB4.cell (p:=⟨w.heap.size,0,none⟩) (lt_of_heap HX.out)).trans e1))
    have hB34:Below wr.heap.size wr w4:=by first|exact hB4|exact past_drew hB4|exact past_drewN hB4
    go_wp2_with fail
    go_roundw
    case measure=>simp [intOf]
    case rel=>exact ⟨HC.out.past hB34,gb_below GB.out hB34,blk_below HX.out hB34,blk_below HR.out hB34,.inr (.inl ⟨by first|rfl|go_num,blk_below H7.out hB34⟩)⟩
   ·have H7:=hd_ h7c
    clear h7c
    have e0:=blk_cell (j:=0) HC.out.blk
    have e1:=blk_cell (j:=0) HX.out
    simp at e0 e1
    go_wp2_with fail
    go_region_held3 (fun w'=>w'.cell? ⟨gs,0,none⟩=some (.pointer (some ⟨gp,0,none⟩))/\w'.cell? ⟨w.heap.size,0,none⟩=some (.int .i64 (i:Nat)))
     (first|exact ⟨e0,e1⟩|exact ⟨e0',e1'⟩)
     ((go_at_call 162;refine (HCH1.out _ (HPW.out _ bel_).1 (HPW.out _ bel_).2).mono ?_;rintro e w4 ⟨rfl,hB4⟩;have e0':=(hB4.cell (p:=⟨gs,0,none⟩) (lt_of_heap HC.out.blk)).trans e0;have e1':=(hB4.cell (p:=⟨w.heap.size,0,none⟩) (lt_of_heap HX.out)).trans e1))
    have hB34:Below wr.heap.size wr w4:=by first|exact hB4|exact past_drew hB4|exact past_drewN hB4
    have HC4:=hd_ (HC.out.past hB34);have GB4:=hd_ (gb_below GB.out hB34);have HX4:=hd_ (blk_below HX.out hB34);have HR4:=hd_ (blk_below HR.out hB34);have H74:=hd_ (blk_below H7.out hB34)
    have e2:=blk_cell (j:=1) HX4.out
    simp at e2
    clear hB4 hB34 e0 e1 e0' e1' HC GB HX HR H7
    go_wp2_with (go_at_call 160;refine (HPUT1.out _ HC4.out.blk).mono ?_;rintro e w5 ⟨rfl,hB5⟩)
    refine wp_named (fun w6=>CS w0 gs gp bm W l w6/\w.grownBy w6 (some bm)/\w6.heap[w.heap.size]?=some (.cells #[.int .i64 (i:Nat),.int .i64 (col:Nat)] 173 (0,0))/\w6.heap[w.heap.size+1]?=some (.cells #[.int .i64 0,.int .i64 0,.int .i64 0] 170 (0,0))/\w6.heap[b7]?=some (.cells #[.int .i64 0,.int .i64 0,.int .i64 (-1)] 170 (0,0))/\w6.heap[w5.heap.size]?=some (.cells #[.int .i64 (ea1:Nat),.int .i64 (eb1:Nat)] 113 (0,0)))
     ⟨(HC4.out.past hB5).past ((Below.refl _ _).alloc (Nat.le_refl _) _),gb_alloc (gb_below GB4.out hB5) _,(Below.heap_alloc _ _ _ (lt_of_heap (blk_below HX4.out hB5))).trans (blk_below HX4.out hB5),(Below.heap_alloc _ _ _ (lt_of_heap (blk_below HR4.out hB5))).trans (blk_below HR4.out hB5),(Below.heap_alloc _ _ _ (lt_of_heap (blk_below H74.out hB5))).trans (blk_below H74.out hB5),heap_new rfl⟩ ?_
    rintro w6 ⟨hc6,hg6,hX6,hR6,h76,h116⟩
    obtain ⟨b11,hb11⟩:∃ b11,w5.heap.size=b11:=⟨_,rfl⟩
    rw [hb11] at h116 ⊢
    have hb11':b7<b11:=by rw [← hb11];exact lt_of_heap (blk_below H74.out hB5)
    clear hb11 hB5 e2 HC4 GB4 HX4 HR4 H74
    have f0:=blk_cell (j:=0) h116
    have f1:=blk_cell (j:=1) h116
    simp at f0 f1
    have hfld:=course_cost
    have HC6:Hid (∀ W',Below w6.heap.size w6 W'->CS w0 gs gp bm W l W'):=hd_ (fun W' hb=>hc6.past hb)
    have HG6:=hd_ hg6
    clear hc6 hg6
    go_region_with (first
      | (go_at_call 90;refine (HCP1.out _ (HC6.out _ bel_)).mono ?_;rintro e w7 ⟨rfl,hcs7,hg7⟩;have HC7:=hd_ hcs7;have HG7:=hd_ hg7;have h117:=blk_gb' hg7 h116 (by omega);have f0':=(show w7.cell? ⟨b11,0,none⟩=some (.int .i64 (ea1:Nat)) from blk_cell (j:=0) h117);have f1':=(show w7.cell? ⟨b11,1,none⟩=some (.int .i64 (eb1:Nat)) from blk_cell (j:=1) h117);clear hcs7 hg7)
      | (go_at_call 161;refine (HPL1.out _).mono ?_;rintro e w8 ⟨rfl,hB8⟩;have HB8:=hd_ hB8;have f0'':=(hB8.cell (p:=⟨b11,0,none⟩) (lt_of_heap h117)).trans f0';have f1'':=(hB8.cell (p:=⟨b11,1,none⟩) (lt_of_heap h117)).trans f1';have k0:=(hB8.frozen (p:=⟨b11,0,none⟩) (lt_of_heap h117)).trans (blk_free (j:=0) h117);have k1:=(hB8.frozen (p:=⟨b11,1,none⟩) (lt_of_heap h117)).trans (blk_free (j:=1) h117);clear hB8))
    all_goals
     have hB78:Below w7.heap.size w7 w8:=by first|exact HB8.out|exact past_drew HB8.out|exact past_drewN HB8.out
     have gb7:w.grownBy w7 (some bm):=grown_trans (by first|exact HG6.out|exact gb_drew HG6.out|exact gb_drewN HG6.out _) HG7.out
     have HG8:=hd_ (gb_below gb7 hB78)
     have HC8:=hd_ (HC7.out.past hB78)
     have hX8:=blk_below (blk_gb' HG7.out hX6 (by omega)) hB78
     have hR8:=blk_below (blk_gb' HG7.out hR6 (by omega)) hB78
     have h78:=blk_below (blk_gb' HG7.out h76 (by omega)) hB78
     have h118:=blk_below h117 hB78
     clear f0 f1 f0' f1' f0'' f1'' k0 k1 hfld h117 HB8 HG7 HC7 gb7 hB78 hX6 hR6 h76 h116 HC6 HG6
     refine then_named (fun w9=>CS w0 gs gp bm W l w9/\w.grownBy w9 (some bm)/\w9.heap[w.heap.size]?=some (.cells #[.int .i64 (i:Nat),.int .i64 (col:Nat)] 173 (0,0))/\w9.heap[w.heap.size+1]?=some (.cells #[.int .i64 0,.int .i64 0,.int .i64 0] 170 (0,0))/\w9.heap[b7]?=some (.cells #[.int .i64 0,.int .i64 0,.int .i64 (-1)] 170 (0,0))/\w9.heap[b11]?=some (.cells #[.int .i64 (pa1:Nat),.int .i64 (pb1:Nat)] 113 (0,0)))
      ⟨HC8.out.set2_ (by omega) (by omega) (by have:=HCS.out.bel.size;omega) _ _,gb_set2 HG8.out (by omega) _ _,blk_far2 hX8 (by omega) _ _,blk_far2 hR8 (by omega) _ _,blk_far2 h78 (by omega) _ _,blk_set2 h118⟩ ?_
     rintro w9 ⟨hC9,gb9,hX9,hR9,h79,h119⟩
     have HC9:=hd_ hC9;have GB9:=hd_ gb9;have HX9:=hd_ hX9;have HR9:=hd_ hR9;have H79:=hd_ h79;have H119:=hd_ h119
     clear hC9 gb9 hX9 hR9 h79 h119 hX8 hR8 h78 h118 HC8 HG8
     have m0:=blk_cell (j:=0) H79.out
     have m1:=blk_cell (j:=1) H79.out
     have m2:=blk_cell (j:=2) H79.out
     have m3:=blk_cell (j:=0) H119.out
     have m4:=blk_cell (j:=1) H119.out
     have m5:=blk_free (j:=0) H79.out
     have m6:=blk_free (j:=1) H79.out
     have m7:=blk_free (j:=2) H79.out
     simp at m0 m1 m2 m3 m4
     go_wp2_with fail
     go_roundw
     case measure=>simp [intOf]
     case rel=>exact ⟨HC9.out.set3_ (by omega) (by omega) (by have:=HCS.out.bel.size;omega) _ _ _,gb_set3 GB9.out (by omega) _ _ _,blk_far3 HX9.out (by omega) _ _ _,blk_far3 HR9.out (by omega) _ _ _,.inr (.inr ⟨by first|rfl|go_num,blk_set3 H79.out⟩)⟩
   exact rq26
theorem rq25 {P:Prop} (h:P:=by
 have H7:=hd_ h7c
 clear h7c
 have e0:=blk_cell (j:=0) HC.out.blk
 have e1:=blk_cell (j:=0) HX.out
 simp at e0 e1
 go_wp2_with fail
 go_region_held3 (fun w'=>w'.cell? ⟨gs,0,none⟩=some (.pointer (some ⟨gp,0,none⟩))/\w'.cell? ⟨w.heap.size,0,none⟩=some (.int .i64 (i:Nat)))
  (first|exact ⟨e0,e1⟩|exact ⟨e0',e1'⟩)
  ((go_at_call 162;refine (HCH0.out _ (HPW.out _ bel_).1 (HPW.out _ bel_).2).mono ?_;rintro e w4 ⟨rfl,hB4⟩;have e0':=(hB4.cell (p:=⟨gs,0,none⟩) (lt_of_heap HC.out.blk)).trans e0;have e1':=(hB4.cell (p:=⟨w.heap.size,0,none⟩) (lt_of_heap HX.out)).trans e1))
 have hB34:Below wr.heap.size wr w4:=by first|exact hB4|exact past_drew hB4|exact past_drewN hB4
 have HC4:=hd_ (HC.out.past hB34);have GB4:=hd_ (gb_below GB.out hB34);have HX4:=hd_ (blk_below HX.out hB34);have HR4:=hd_ (blk_below HR.out hB34);have H74:=hd_ (blk_below H7.out hB34)
 have e2:=blk_cell (j:=1) HX4.out
 simp at e2
 clear hB4 hB34 e0 e1 e0' e1' HC GB HX HR H7
 go_wp2_with (go_at_call 160;refine (HPUT0.out _ HC4.out.blk).mono ?_;rintro e w5 ⟨rfl,hB5⟩)
 refine wp_named (fun w6=>CS w0 gs gp bm W l w6/\w.grownBy w6 (some bm)/\w6.heap[w.heap.size]?=some (.cells #[.int .i64 (i:Nat),.int .i64 (col:Nat)] 173 (0,0))/\w6.heap[w.heap.size+1]?=some (.cells #[.int .i64 0,.int .i64 0,.int .i64 0] 170 (0,0))/\w6.heap[b7]?=some (.cells #[.int .i64 0,.int .i64 0,.int .i64 (-1)] 170 (0,0))/\w6.heap[w5.heap.size]?=some (.cells #[.int .i64 (ea0:Nat),.int .i64 (eb0:Nat)] 113 (0,0)))
  ⟨(HC4.out.past hB5).past ((Below.refl _ _).alloc (Nat.le_refl _) _),gb_alloc (gb_below GB4.out hB5) _,(Below.heap_alloc _ _ _ (lt_of_heap (blk_below HX4.out hB5))).trans (blk_below HX4.out hB5),(Below.heap_alloc _ _ _ (lt_of_heap (blk_below HR4.out hB5))).trans (blk_below HR4.out hB5),(Below.heap_alloc _ _ _ (lt_of_heap (blk_below H74.out hB5))).trans (blk_below H74.out hB5),heap_new rfl⟩ ?_
 rintro w6 ⟨hc6,hg6,hX6,hR6,h76,h116⟩
 obtain ⟨b11,hb11⟩:∃ b11,w5.heap.size=b11:=⟨_,rfl⟩
 rw [hb11] at h116 ⊢
 have hb11':b7<b11:=by rw [← hb11];exact lt_of_heap (blk_below H74.out hB5)
 clear hb11 hB5 e2 HC4 GB4 HX4 HR4 H74
 have f0:=blk_cell (j:=0) h116
 have f1:=blk_cell (j:=1) h116
 simp at f0 f1
 have hfld:=course_cost
 have HC6:Hid (∀ W',Below w6.heap.size w6 W'->CS w0 gs gp bm W l W'):=hd_ (fun W' hb=>hc6.past hb)
 have HG6:=hd_ hg6
 clear hc6 hg6
 go_region_with (first
   | (go_at_call 90;refine (HCP0.out _ (HC6.out _ bel_)).mono ?_;rintro e w7 ⟨rfl,hcs7,hg7⟩;have HC7:=hd_ hcs7;have HG7:=hd_ hg7;have h117:=blk_gb' hg7 h116 (by omega);have f0':=(show w7.cell? ⟨b11,0,none⟩=some (.int .i64 (ea0:Nat)) from blk_cell (j:=0) h117);have f1':=(show w7.cell? ⟨b11,1,none⟩=some (.int .i64 (eb0:Nat)) from blk_cell (j:=1) h117);clear hcs7 hg7)
   | (go_at_call 161;refine (HPL0.out _).mono ?_;rintro e w8 ⟨rfl,hB8⟩;have HB8:=hd_ hB8;have f0'':=(hB8.cell (p:=⟨b11,0,none⟩) (lt_of_heap h117)).trans f0';have f1'':=(hB8.cell (p:=⟨b11,1,none⟩) (lt_of_heap h117)).trans f1';have k0:=(hB8.frozen (p:=⟨b11,0,none⟩) (lt_of_heap h117)).trans (blk_free (j:=0) h117);have k1:=(hB8.frozen (p:=⟨b11,1,none⟩) (lt_of_heap h117)).trans (blk_free (j:=1) h117);clear hB8))
 all_goals
  have hB78:Below w7.heap.size w7 w8:=by first|exact HB8.out|exact past_drew HB8.out|exact past_drewN HB8.out
  have gb7:w.grownBy w7 (some bm):=grown_trans (by first|exact HG6.out|exact gb_drew HG6.out|exact gb_drewN HG6.out _) HG7.out
  have HG8:=hd_ (gb_below gb7 hB78)
  have HC8:=hd_ (HC7.out.past hB78)
  have hX8:=blk_below (blk_gb' HG7.out hX6 (by omega)) hB78
  have hR8:=blk_below (blk_gb' HG7.out hR6 (by omega)) hB78
  have h78:=blk_below (blk_gb' HG7.out h76 (by omega)) hB78
  have h118:=blk_below h117 hB78
  clear f0 f1 f0' f1' f0'' f1'' k0 k1 hfld h117 HB8 HG7 HC7 gb7 hB78 hX6 hR6 h76 h116 HC6 HG6
  refine then_named (fun w9=>CS w0 gs gp bm W l w9/\w.grownBy w9 (some bm)/\w9.heap[w.heap.size]?=some (.cells #[.int .i64 (i:Nat),.int .i64 (col:Nat)] 173 (0,0))/\w9.heap[w.heap.size+1]?=some (.cells #[.int .i64 0,.int .i64 0,.int .i64 0] 170 (0,0))/\w9.heap[b7]?=some (.cells #[.int .i64 0,.int .i64 0,.int .i64 (-1)] 170 (0,0))/\w9.heap[b11]?=some (.cells #[.int .i64 (pa0:Nat),.int .i64 (pb0:Nat)] 113 (0,0)))
   ⟨HC8.out.set2_ (by omega) (by omega) (by have:=HCS.out.bel.size;omega) _ _,gb_set2 HG8.out (by omega) _ _,blk_far2 hX8 (by omega) _ _,blk_far2 hR8 (by omega) _ _,blk_far2 h78 (by omega) _ _,blk_set2 h118⟩ ?_
  rintro w9 ⟨hC9,gb9,hX9,hR9,h79,h119⟩
  have HC9:=hd_ hC9;have GB9:=hd_ gb9;have HX9:=hd_ hX9;have HR9:=hd_ hR9;have H79:=hd_ h79;have H119:=hd_ h119
  clear hC9 gb9 hX9 hR9 h79 h119 hX8 hR8 h78 h118 HC8 HG8
  have m0:=blk_cell (j:=0) H79.out
  have m1:=blk_cell (j:=1) H79.out
  have m2:=blk_cell (j:=2) H79.out
  have m3:=blk_cell (j:=0) H119.out
  have m4:=blk_cell (j:=1) H119.out
  have m5:=blk_free (j:=0) H79.out
  have m6:=blk_free (j:=1) H79.out
  have m7:=blk_free (j:=2) H79.out
  simp at m0 m1 m2 m3 m4
  go_wp2_with fail
  go_roundw
  case measure=>simp [intOf]
  case rel=>exact ⟨HC9.out.set3_ (by omega) (by omega) (by have:=HCS.out.bel.size;omega) _ _ _,gb_set3 GB9.out (by omega) _ _ _,blk_far3 HX9.out (by omega) _ _ _,blk_far3 HR9.out (by omega) _ _ _,.inr (.inl ⟨by first|rfl|go_num,blk_set3 H79.out⟩)⟩):P:=h
theorem ask_first {l:List Nd} (h400:l.length<=400) {gp:Nat} {A:Option Addr} {c:Nat} (w0:World) (hpl:IsPlan w0 gp A c l) (hnl:Nds w0 w0.heap.size A l) {gs bm W:Nat} {i col:Nat} {w:World} (hcs:CS w0 gs gp bm W l w) (hcol:col<=2000000)
  {f:Value->Option Value} (hmf:MapF Tryz.prog 173 f bm w) (hv:f (spotV i col)=none) (hlt:i<l.length) {t0 t1:ByteArray} {i0 i1 ea0 eb0 col0 da0 db0 pa0 pb0 ea1 eb1 col1 da1 db1 pa1 pb1:Nat} {ch0 ch1:Int}
  (hpc:∀ w,IsPlan w gp A c l->Nds w w.heap.size A l->Calls Tryz.prog 159 #[.pointer (some ⟨gp,0,none⟩),.int .i64 i] w (Ret w (.tuple #[.string t1,.int .i64 (i:Nat),.bool true])))
  (hch0:∀ w,IsPlan w gp A c l->Nds w w.heap.size A l->Calls Tryz.prog 162 #[.pointer (some ⟨gp,0,none⟩),.int .i64 i,.int .i64 0] w (Ret w (.tuple #[.string t0,.int .i64 (i0:Nat),.bool true])))
  (hch1:∀ w,IsPlan w gp A c l->Nds w w.heap.size A l->Calls Tryz.prog 162 #[.pointer (some ⟨gp,0,none⟩),.int .i64 i,.int .i64 1] w (Ret w (.tuple #[.string t1,.int .i64 (i1:Nat),.bool true])))
  (hput0:∀ W':World,W'.heap[gs]?=some (.cells #[.pointer (some ⟨gp,0,none⟩),.int .i64 (W:Nat),.map (some bm)] 168 (0,0))->Calls Tryz.prog 160 #[.pointer (some ⟨gs,0,none⟩),.string t0,.int .i64 (col:Nat)] W' (Ret W' (.tuple #[.agg #[.int .i64 (ea0:Nat),.int .i64 (eb0:Nat)],.int .i64 (col0:Nat)])))
  (hcp0:∀ W':World,CS w0 gs gp bm W l W'->Calls Tryz.prog 90 #[.pointer (some ⟨gs,0,none⟩),.agg #[.int .i64 (i0:Nat),.int .i64 (col0:Nat)]] W' (CheapTo w0 gs gp bm W l (.agg #[.int .i64 (da0:Nat),.int .i64 (db0:Nat),.int .i64 ch0]) W'))
  (hpl0:∀ W':World,Calls Tryz.prog 161 #[.agg #[.int .i64 (ea0:Nat),.int .i64 (eb0:Nat)],.agg #[.int .i64 (da0:Nat),.int .i64 (db0:Nat)]] W' (Ret W' (.agg #[.int .i64 (pa0:Nat),.int .i64 (pb0:Nat)])))
  (hput1:∀ W':World,W'.heap[gs]?=some (.cells #[.pointer (some ⟨gp,0,none⟩),.int .i64 (W:Nat),.map (some bm)] 168 (0,0))->Calls Tryz.prog 160 #[.pointer (some ⟨gs,0,none⟩),.string t1,.int .i64 (col:Nat)] W' (Ret W' (.tuple #[.agg #[.int .i64 (ea1:Nat),.int .i64 (eb1:Nat)],.int .i64 (col1:Nat)])))
  (hcp1:∀ W':World,CS w0 gs gp bm W l W'->Calls Tryz.prog 90 #[.pointer (some ⟨gs,0,none⟩),.agg #[.int .i64 (i1:Nat),.int .i64 (col1:Nat)]] W' (CheapTo w0 gs gp bm W l (.agg #[.int .i64 (da1:Nat),.int .i64 (db1:Nat),.int .i64 ch1]) W'))
  (hpl1:∀ W':World,Calls Tryz.prog 161 #[.agg #[.int .i64 (ea1:Nat),.int .i64 (eb1:Nat)],.agg #[.int .i64 (da1:Nat),.int .i64 (db1:Nat)]] W' (Ret W' (.agg #[.int .i64 (pa1:Nat),.int .i64 (pb1:Nat)])))
  (hun:∀ W':World,Calls Tryz.prog 163 #[.agg #[.int .i64 (pa1:Nat),.int .i64 (pb1:Nat)],.agg #[.int .i64 (pa0:Nat),.int .i64 (pb0:Nat)]] W' (Ret W' (.bool false)))
  (hkn:∀ f':Value->Option Value,KnownC l W f'->KnownC l W (putF f' (.agg #[.int .i64 (i:Nat),.int .i64 (col:Nat)]) (.agg #[.int .i64 (pa0:Nat),.int .i64 (pb0:Nat),.int .i64 0]))) :
  Calls Tryz.prog 90 #[.pointer (some ⟨gs,0,none⟩),spotV i col] w (CheapTo w0 gs gp bm W l (.agg #[.int .i64 (pa0:Nat),.int .i64 (pb0:Nat),.int .i64 0]) w):=by
 obtain ⟨kl,hkl⟩:=spot_key (i:=i) (col:=col) (by omega) (by omega)
 have HPC:=hd_ hpc;have HCH0:=hd_ hch0;have HCH1:=hd_ hch1;have HPUT1:=hd_ hput1;have HCP1:=hd_ hcp1;have HPL1:=hd_ hpl1;have HKN:=hd_ hkn
 have HPUT0:=hd_ hput0;have HCP0:=hd_ hcp0;have HPL0:=hd_ hpl0
 clear hput0 hcp0 hpl0
 have HUN:=hd_ hun
 clear hun
 clear hpc hch0 hch1 hput1 hcp1 hpl1 hkn
 have hml:=hcs.mlt
 have hms:=hcs.ms
 have hsl:=lt_of_heap hcs.blk
 obtain ⟨gn,gd,ge,gf',gi,cf,ci,hpa⟩:=hpl.past hcs.bel
 have z0:=hpa.c0
 have hgp:=hpa.lp
 have hne:((i:Int)==(l.length:Int))=false:=by rw [beq_eq_false_iff_ne];omega
 have y0:=blk_cell (j:=0) hcs.blk
 have y2:=blk_cell (j:=2) hcs.blk
 simp at y0 y2
 have hb1:∀ o1 o2,Below w.heap.size w ((w.alloc o1).alloc o2):=fun o1 o2=>((Below.refl _ _).alloc (Nat.le_refl _) _).alloc (by simp) _
 have HW:∀ (o2:Obj) W',Below (((w.alloc (.cells #[.int .i64 (i:Nat),.int .i64 (col:Nat)] 173)).alloc o2).heap.size) ((w.alloc (.cells #[.int .i64 (i:Nat),.int .i64 (col:Nat)] 173)).alloc o2) W'->HeadIs gs gp bm A c l.length w.heap.size i col f W':=fun o2 W' hW'=>by
  exact rq29
 unfold HeadIs at HW
 simp only [hv,Option.getD_none,Option.isSome_none] at HW
 unfold spotV
 have HBX:Hid (∀ W',Below (((w.alloc (.cells #[.int .i64 (i:Nat),.int .i64 (col:Nat)] 173)).alloc (.cells #[.int .i64 0,.int .i64 0,.int .i64 0] 170)).heap.size) ((w.alloc (.cells #[.int .i64 (i:Nat),.int .i64 (col:Nat)] 173)).alloc (.cells #[.int .i64 0,.int .i64 0,.int .i64 0] 170)) W'->W'.heap[w.heap.size]?=some (.cells #[.int .i64 (i:Nat),.int .i64 (col:Nat)] 173 (0,0))/\W'.heap[w.heap.size+1]?=some (.cells #[.int .i64 0,.int .i64 0,.int .i64 0] 170 (0,0))) :=
  hd_ (fun W' hb=>⟨blk_below ((Below.heap_alloc _ _ _ (by simp)).trans (heap_new rfl)) hb,blk_below (heap_new (by simp)) hb⟩)
 have HGS:Hid (∀ W',Below w.heap.size w W'->W'.heap[gs]?=some (.cells #[.pointer (some ⟨gp,0,none⟩),.int .i64 (W:Nat),.map (some bm)] 168 (0,0))):=hd_ (fun W' hb=>blk_below hcs.blk hb)
 have HWW:=hd_ HW
 have HCS:=hd_ hcs;have HKL:=hd_ hkl
 have HPN:Hid (∀ W',Below w0.heap.size w0 W'->IsPlan W' gp A c l/\Nds W' W'.heap.size A l):=hd_ (fun W' hb=>⟨hpl.past hb,hnl.past hb⟩)
 have HPN1:Hid (∀ W',Below w.heap.size w W'->IsPlan W' gp A c l/\Nds W' W'.heap.size A l):=hd_ (fun W' hb=>HPN.out W' (hcs.bel.trans (hb.mono hcs.bel.size)))
 clear HW hpa hkl hcs hmf hv hpl y0 y2 z0 hnl
 go_enter Tryz.func90,Tryz.ntmps90
 go_wp2
 obtain ⟨q0,q2,z0,x0,x1,hl⟩:=HWW.out (.cells #[.int .i64 0,.int .i64 0,.int .i64 0] 170) _ (Below.refl _ _)
 clear hl
 go_quiet (fail)
 go_upto_region 3 with fail
 have hlk:∀ n:Nat,(Instr.lookup 166 (.map (some bm)) (.agg #[.int .i64 (i:Nat),.int .i64 (col:Nat)]) true).run Tryz.prog (((w.alloc (.cells #[.int .i64 (i:Nat),.int .i64 (col:Nat)] 173)).alloc (.cells #[.int .i64 0,.int .i64 0,.int .i64 0] 170)).drewN n)=.ok (.tuple #[.agg #[.int .i64 0,.int .i64 0,.int .i64 0],.bool false]) (((w.alloc (.cells #[.int .i64 (i:Nat),.int .i64 (col:Nat)] 173)).alloc (.cells #[.int .i64 0,.int .i64 0,.int .i64 0] 170)).drewN n) :=
  fun n=>(HWW.out _ _ (below_drewN (Below.refl _ _) n)).2.2.2.2.2
 have hlk2:∀ n:Nat,(Instr.lookup 166 (.map (some bm)) (.agg #[.int .i64 (i:Nat),.int .i64 (col:Nat)]) true).run Tryz.prog ((((w.alloc (.cells #[.int .i64 (i:Nat),.int .i64 (col:Nat)] 173)).alloc (.cells #[.int .i64 0,.int .i64 0,.int .i64 0] 170)).drewN n).alloc (.cells #[.int .i64 0,.int .i64 0,.int .i64 0] 170))=.ok (.tuple #[.agg #[.int .i64 0,.int .i64 0,.int .i64 0],.bool false]) ((((w.alloc (.cells #[.int .i64 (i:Nat),.int .i64 (col:Nat)] 173)).alloc (.cells #[.int .i64 0,.int .i64 0,.int .i64 0] 170)).drewN n).alloc (.cells #[.int .i64 0,.int .i64 0,.int .i64 0] 170)) :=
  fun n=>(HWW.out (.cells #[.int .i64 0,.int .i64 0,.int .i64 0] 170) ((((w.alloc (.cells #[.int .i64 (i:Nat),.int .i64 (col:Nat)] 173)).alloc (.cells #[.int .i64 0,.int .i64 0,.int .i64 0] 170)).drewN n).alloc (.cells #[.int .i64 0,.int .i64 0,.int .i64 0] 170)) bel_).2.2.2.2.2
 go_cut [6] from 31 to 39 (fun s6 wx=>s6=.bool false/\Below w.heap.size w wx/\wx.heap[w.heap.size]?=some (.cells #[.int .i64 (i:Nat),.int .i64 (col:Nat)] 173 (0,0))/\wx.heap[w.heap.size+1]?=some (.cells #[.int .i64 0,.int .i64 0,.int .i64 0] 170 (0,0)))
 case first =>
  exact rq28
 case rest =>
  obtain ⟨rfl,hBx,hX,hR⟩:=hcut
  clear hlk hlk2 x0 x1 z0 q0 q2 HBX HWW
  go_wp2_with fail
  refine wp_named (fun w3=>Below w.heap.size w w3/\w3.heap[w.heap.size]?=some (.cells #[.int .i64 (i:Nat),.int .i64 (col:Nat)] 173 (0,0))/\w3.heap[w.heap.size+1]?=some (.cells #[.int .i64 0,.int .i64 0,.int .i64 0] 170 (0,0))/\w3.heap[wc.heap.size]?=some (.cells #[.int .i64 0,.int .i64 0,.int .i64 (-1)] 170 (0,0)))
   ⟨hBx.alloc hBx.size _,(Below.heap_alloc _ _ _ (lt_of_heap hX)).trans hX,(Below.heap_alloc _ _ _ (lt_of_heap hR)).trans hR,heap_new rfl⟩ ?_
  rintro w3 ⟨hB3,hX3,hR3,h73⟩
  obtain ⟨b7,hb7⟩:∃ b7,wc.heap.size=b7:=⟨_,rfl⟩
  rw [hb7] at h73 ⊢
  have hb7':w.heap.size+2<=b7:=by rw [← hb7];exact lt_of_heap hR
  clear hb7 hX hR hBx
  have e0:=blk_cell (j:=0) (HGS.out w3 hB3)
  have e1:=blk_cell (j:=0) hX3
  simp at e0 e1
  go_region_held3 (fun w'=>w'.cell? ⟨gs,0,none⟩=some (.pointer (some ⟨gp,0,none⟩))/\w'.cell? ⟨w.heap.size,0,none⟩=some (.int .i64 (i:Nat)))
   (first|exact ⟨e0,e1⟩|exact ⟨e0',e1'⟩)
   ((go_at_call 159;refine (HPC.out _ (HPN1.out _ bel_).1 (HPN1.out _ bel_).2).mono ?_;rintro e w4 ⟨rfl,hB4⟩;have e0':=(hB4.cell (p:=⟨gs,0,none⟩) (lt_of_heap (HGS.out w3 hB3))).trans e0;have e1':=(hB4.cell (p:=⟨w.heap.size,0,none⟩) (lt_of_heap hX3)).trans e1))
  have hB34:Below w3.heap.size w3 w4:=by first|exact hB4|exact past_drew hB4|exact past_drewN hB4
  have HC4:=hd_ (HCS.out.past (hB3.trans (hB34.mono hB3.size)))
  have GB4:=hd_ (gb_of_below (hB3.trans (hB34.mono hB3.size)) bm)
  have HX4:=hd_ (blk_below hX3 hB34)
  have HR4:=hd_ (blk_below hR3 hB34)
  have H74:=hd_ (blk_below h73 hB34)
  clear hB4 hB34 hB3 hX3 hR3 h73 e0 e1 e0' e1'
  go_wp2_with fail
  go_loopw [13] (fun s13 wr=>CS w0 gs gp bm W l wr/\w.grownBy wr (some bm)/\wr.heap[w.heap.size]?=some (.cells #[.int .i64 (i:Nat),.int .i64 (col:Nat)] 173 (0,0))/\wr.heap[w.heap.size+1]?=some (.cells #[.int .i64 0,.int .i64 0,.int .i64 0] 170 (0,0))/\((s13=.int .i64 0/\wr.heap[b7]?=some (.cells #[.int .i64 0,.int .i64 0,.int .i64 (-1)] 170 (0,0)))∨(s13=.int .i64 1/\wr.heap[b7]?=some (.cells #[.int .i64 (pa0:Nat),.int .i64 (pb0:Nat),.int .i64 0] 170 (0,0)))∨(s13=.int .i64 2/\wr.heap[b7]?=some (.cells #[.int .i64 (pa0:Nat),.int .i64 (pb0:Nat),.int .i64 0] 170 (0,0))))) (fun s13 _=>2-(intOf s13).toNat)
  case atStart=>exact ⟨HC4.out,GB4.out,HX4.out,HR4.out,.inl ⟨rfl,H74.out⟩⟩
  case round =>
   obtain ⟨hcr,hgr,hxr,hrr,h7r⟩:=hrel
   have HC:=hd_ hcr;have GB:=hd_ hgr;have HX:=hd_ hxr;have HR:=hd_ hrr
   have HPW:Hid (∀ W',Below wr.heap.size wr W'->IsPlan W' gp A c l/\Nds W' W'.heap.size A l):=hd_ (fun W' hb=>HPN.out W' (hcr.bel.trans (hb.mono hcr.bel.size)))
   clear hcr hgr hxr hrr HC4 GB4 HX4 HR4 H74
   rcases h7r with ⟨rfl,h7c⟩|⟨rfl,h7c⟩|⟨rfl,h7c⟩
   ·exact rq25
   ·have H7:=hd_ h7c
    clear h7c
    have e0:=blk_cell (j:=0) HC.out.blk
    have e1:=blk_cell (j:=0) HX.out
    simp at e0 e1
    go_wp2_with fail
    go_region_held3 (fun w'=>w'.cell? ⟨gs,0,none⟩=some (.pointer (some ⟨gp,0,none⟩))/\w'.cell? ⟨w.heap.size,0,none⟩=some (.int .i64 (i:Nat)))
     (first|exact ⟨e0,e1⟩|exact ⟨e0',e1'⟩)
     ((go_at_call 162;refine (HCH1.out _ (HPW.out _ bel_).1 (HPW.out _ bel_).2).mono ?_;rintro e w4 ⟨rfl,hB4⟩;have e0':=(hB4.cell (p:=⟨gs,0,none⟩) (lt_of_heap HC.out.blk)).trans e0;have e1':=(hB4.cell (p:=⟨w.heap.size,0,none⟩) (lt_of_heap HX.out)).trans e1))
    have hB34:Below wr.heap.size wr w4:=by first|exact hB4|exact past_drew hB4|exact past_drewN hB4
    have HC4:=hd_ (HC.out.past hB34);have GB4:=hd_ (gb_below GB.out hB34);have HX4:=hd_ (blk_below HX.out hB34);have HR4:=hd_ (blk_below HR.out hB34);have H74:=hd_ (blk_below H7.out hB34)
    have e2:=blk_cell (j:=1) HX4.out
    simp at e2
    clear hB4 hB34 e0 e1 e0' e1' HC GB HX HR H7
    go_wp2_with (go_at_call 160;refine (HPUT1.out _ HC4.out.blk).mono ?_;rintro e w5 ⟨rfl,hB5⟩)
    refine wp_named (fun w6=>CS w0 gs gp bm W l w6/\w.grownBy w6 (some bm)/\w6.heap[w.heap.size]?=some (.cells #[.int .i64 (i:Nat),.int .i64 (col:Nat)] 173 (0,0))/\w6.heap[w.heap.size+1]?=some (.cells #[.int .i64 0,.int .i64 0,.int .i64 0] 170 (0,0))/\w6.heap[b7]?=some (.cells #[.int .i64 (pa0:Nat),.int .i64 (pb0:Nat),.int .i64 0] 170 (0,0))/\w6.heap[w5.heap.size]?=some (.cells #[.int .i64 (ea1:Nat),.int .i64 (eb1:Nat)] 113 (0,0)))
     ⟨(HC4.out.past hB5).past ((Below.refl _ _).alloc (Nat.le_refl _) _),gb_alloc (gb_below GB4.out hB5) _,(Below.heap_alloc _ _ _ (lt_of_heap (blk_below HX4.out hB5))).trans (blk_below HX4.out hB5),(Below.heap_alloc _ _ _ (lt_of_heap (blk_below HR4.out hB5))).trans (blk_below HR4.out hB5),(Below.heap_alloc _ _ _ (lt_of_heap (blk_below H74.out hB5))).trans (blk_below H74.out hB5),heap_new rfl⟩ ?_
    rintro w6 ⟨hc6,hg6,hX6,hR6,h76,h116⟩
    obtain ⟨b11,hb11⟩:∃ b11,w5.heap.size=b11:=⟨_,rfl⟩
    rw [hb11] at h116 ⊢
    have hb11':b7<b11:=by rw [← hb11];exact lt_of_heap (blk_below H74.out hB5)
    clear hb11 hB5 e2 HC4 GB4 HX4 HR4 H74
    have f0:=blk_cell (j:=0) h116
    have f1:=blk_cell (j:=1) h116
    simp at f0 f1
    have hfld:=course_cost
    have HC6:Hid (∀ W',Below w6.heap.size w6 W'->CS w0 gs gp bm W l W'):=hd_ (fun W' hb=>hc6.past hb)
    have HG6:=hd_ hg6
    clear hc6 hg6
    go_region_with (first
      | (go_at_call 90;refine (HCP1.out _ (HC6.out _ bel_)).mono ?_;rintro e w7 ⟨rfl,hcs7,hg7⟩;have HC7:=hd_ hcs7;have HG7:=hd_ hg7;have h117:=blk_gb' hg7 h116 (by omega);have f0':=(show w7.cell? ⟨b11,0,none⟩=some (.int .i64 (ea1:Nat)) from blk_cell (j:=0) h117);have f1':=(show w7.cell? ⟨b11,1,none⟩=some (.int .i64 (eb1:Nat)) from blk_cell (j:=1) h117);clear hcs7 hg7)
      | (go_at_call 161;refine (HPL1.out _).mono ?_;rintro e w8 ⟨rfl,hB8⟩;have HB8:=hd_ hB8;have f0'':=(hB8.cell (p:=⟨b11,0,none⟩) (lt_of_heap h117)).trans f0';have f1'':=(hB8.cell (p:=⟨b11,1,none⟩) (lt_of_heap h117)).trans f1';have k0:=(hB8.frozen (p:=⟨b11,0,none⟩) (lt_of_heap h117)).trans (blk_free (j:=0) h117);have k1:=(hB8.frozen (p:=⟨b11,1,none⟩) (lt_of_heap h117)).trans (blk_free (j:=1) h117);clear hB8))
    all_goals
     have hB78:Below w7.heap.size w7 w8:=by first|exact HB8.out|exact past_drew HB8.out|exact past_drewN HB8.out
     have gb7:w.grownBy w7 (some bm):=grown_trans (by first|exact HG6.out|exact gb_drew HG6.out|exact gb_drewN HG6.out _) HG7.out
     have HG8:=hd_ (gb_below gb7 hB78)
     have HC8:=hd_ (HC7.out.past hB78)
     have hX8:=blk_below (blk_gb' HG7.out hX6 (by omega)) hB78
     have hR8:=blk_below (blk_gb' HG7.out hR6 (by omega)) hB78
     have h78:=blk_below (blk_gb' HG7.out h76 (by omega)) hB78
     have h118:=blk_below h117 hB78
     clear f0 f1 f0' f1' f0'' f1'' k0 k1 hfld h117 HB8 HG7 HC7 gb7 hB78 hX6 hR6 h76 h116 HC6 HG6
     refine then_named (fun w9=>CS w0 gs gp bm W l w9/\w.grownBy w9 (some bm)/\w9.heap[w.heap.size]?=some (.cells #[.int .i64 (i:Nat),.int .i64 (col:Nat)] 173 (0,0))/\w9.heap[w.heap.size+1]?=some (.cells #[.int .i64 0,.int .i64 0,.int .i64 0] 170 (0,0))/\w9.heap[b7]?=some (.cells #[.int .i64 (pa0:Nat),.int .i64 (pb0:Nat),.int .i64 0] 170 (0,0))/\w9.heap[b11]?=some (.cells #[.int .i64 (pa1:Nat),.int .i64 (pb1:Nat)] 113 (0,0)))
      ⟨HC8.out.set2_ (by omega) (by omega) (by have:=HCS.out.bel.size;omega) _ _,gb_set2 HG8.out (by omega) _ _,blk_far2 hX8 (by omega) _ _,blk_far2 hR8 (by omega) _ _,blk_far2 h78 (by omega) _ _,blk_set2 h118⟩ ?_
     rintro w9 ⟨hC9,gb9,hX9,hR9,h79,h119⟩
     have HC9:=hd_ hC9;have GB9:=hd_ gb9;have HX9:=hd_ hX9;have HR9:=hd_ hR9;have H79:=hd_ h79;have H119:=hd_ h119
     clear hC9 gb9 hX9 hR9 h79 h119 hX8 hR8 h78 h118 HC8 HG8
     have m0:=blk_cell (j:=0) H79.out
     have m1:=blk_cell (j:=1) H79.out
     have m2:=blk_cell (j:=2) H79.out
     have m3:=blk_cell (j:=0) H119.out
     have m4:=blk_cell (j:=1) H119.out
     have m5:=blk_free (j:=0) H79.out
     have m6:=blk_free (j:=1) H79.out
     have m7:=blk_free (j:=2) H79.out
     simp at m0 m1 m2 m3 m4
     go_wp2_with (go_at_call 163;refine (HUN.out _).mono ?_;rintro e w10 ⟨rfl,hB10⟩;have n3:=(hB10.cell (p:=⟨b11,0,none⟩) (lt_of_heap H119.out)).trans m3;have n4:=(hB10.cell (p:=⟨b11,1,none⟩) (lt_of_heap H119.out)).trans m4;have n0:=(hB10.cell (p:=⟨b7,0,none⟩) (lt_of_heap H79.out)).trans m0;have n1:=(hB10.cell (p:=⟨b7,1,none⟩) (lt_of_heap H79.out)).trans m1;have n2:=(hB10.cell (p:=⟨b7,2,none⟩) (lt_of_heap H79.out)).trans m2;have n5:=(hB10.frozen (p:=⟨b7,0,none⟩) (lt_of_heap H79.out)).trans m5;have n6:=(hB10.frozen (p:=⟨b7,1,none⟩) (lt_of_heap H79.out)).trans m6;have n7:=(hB10.frozen (p:=⟨b7,2,none⟩) (lt_of_heap H79.out)).trans m7)
     go_roundw
     case measure=>simp [intOf]
     case rel=>exact ⟨HC9.out.past hB10,gb_below GB9.out hB10,blk_below HX9.out hB10,blk_below HR9.out hB10,.inr (.inr ⟨by first|rfl|go_num,blk_below H79.out hB10⟩)⟩
   ·have H7:=hd_ h7c
    clear h7c
    go_wp2_with fail
    obtain ⟨f',hm',hk'⟩:=HC.out.map
    obtain ⟨o,ho⟩:=hm'.store spotLaw Tryz.underlying166 HKL.out (.agg #[.int .i64 (pa0:Nat),.int .i64 (pb0:Nat),.int .i64 0])
    unfold spotV at ho
    have HO:=hd_ ho
    have hk2:=HKN.out f' hk'
    have HK2:=hd_ hk2
    have hup:(Instr.mapUpdate 166 (.map (some bm)) (.agg #[.int .i64 (i:Nat),.int .i64 (col:Nat)]) (.agg #[.int .i64 (pa0:Nat),.int .i64 (pb0:Nat),.int .i64 0])).run Tryz.prog wr.drew=.ok () (setBlock wr.drew bm o):=(ho wr.drew rfl).1
    have v0:wr.cell? ⟨gs,2,none⟩=some (.map (some bm)):=blk_cell (j:=2) HC.out.blk
    have v1:wr.cell? ⟨w.heap.size,0,none⟩=some (.int .i64 (i:Nat)):=blk_cell (j:=0) HX.out
    have v2:wr.cell? ⟨w.heap.size,1,none⟩=some (.int .i64 (col:Nat)):=blk_cell (j:=1) HX.out
    have v3:wr.cell? ⟨b7,0,none⟩=some (.int .i64 (pa0:Nat)):=blk_cell (j:=0) H7.out
    have v4:wr.cell? ⟨b7,1,none⟩=some (.int .i64 (pb0:Nat)):=blk_cell (j:=1) H7.out
    have v5:wr.cell? ⟨b7,2,none⟩=some (.int .i64 0):=blk_cell (j:=2) H7.out
    have far:∀ (g:Nat) (x:Obj),g≠bm->wr.heap[g]?=some x->(setBlock wr.drew bm o).heap[g]?=some x:=fun g x hne hg=>blk_gb' (HO.out wr.drew rfl).2.2 hg hne
    have FAR:=hd_ far
    have u0:(setBlock wr.drew bm o).cell? ⟨gs,2,none⟩=some (.map (some bm)):=blk_cell (j:=2) (far gs _ hms HC.out.blk)
    have u1:(setBlock wr.drew bm o).cell? ⟨w.heap.size,0,none⟩=some (.int .i64 (i:Nat)):=blk_cell (j:=0) (far _ _ (by omega) HX.out)
    have u2:(setBlock wr.drew bm o).cell? ⟨w.heap.size,1,none⟩=some (.int .i64 (col:Nat)):=blk_cell (j:=1) (far _ _ (by omega) HX.out)
    have u3:(setBlock wr.drew bm o).cell? ⟨b7,0,none⟩=some (.int .i64 (pa0:Nat)):=blk_cell (j:=0) (far _ _ (by omega) H7.out)
    have u4:(setBlock wr.drew bm o).cell? ⟨b7,1,none⟩=some (.int .i64 (pb0:Nat)):=blk_cell (j:=1) (far _ _ (by omega) H7.out)
    have u5':(setBlock wr.drew bm o).cell? ⟨b7,2,none⟩=some (.int .i64 0):=blk_cell (j:=2) (far _ _ (by omega) H7.out)
    clear ho hk2 hk' hm' far
    go_region_held3 (fun w'=>w'.cell? ⟨gs,2,none⟩=some (.map (some bm))/\w'.cell? ⟨w.heap.size,0,none⟩=some (.int .i64 (i:Nat))/\w'.cell? ⟨w.heap.size,1,none⟩=some (.int .i64 (col:Nat))/\w'.cell? ⟨b7,0,none⟩=some (.int .i64 (pa0:Nat))/\w'.cell? ⟨b7,1,none⟩=some (.int .i64 (pb0:Nat))/\w'.cell? ⟨b7,2,none⟩=some (.int .i64 0))
     (first|exact ⟨v0,v1,v2,v3,v4,v5⟩|exact ⟨u0,u1,u2,u3,u4,u5'⟩) (fail)
    clear hup u0 u1 u2 u3 u4 u5' v0 v1 v2 v3 v4 v5
    refine then_named (fun wy=>CS w0 gs gp bm W l wy/\w.grownBy wy (some bm)/\wy.heap[w.heap.size+1]?=some (.cells #[.int .i64 0,.int .i64 0,.int .i64 0] 170 (0,0))/\wy.heap[b7]?=some (.cells #[.int .i64 (pa0:Nat),.int .i64 (pb0:Nat),.int .i64 0] 170 (0,0))) ⟨HC.out.store HO.out HK2.out 1,grown_trans (gb_drew GB.out) (HO.out wr.drew rfl).2.2,FAR.out _ _ (by omega) HR.out,FAR.out _ _ (by omega) H7.out⟩ ?_
    rintro wy ⟨hCy,gby,hRy,h7y⟩
    have a0:=blk_cell (j:=0) h7y
    have a1:=blk_cell (j:=1) h7y
    have a2:=blk_cell (j:=2) h7y
    have a3:=blk_cell (j:=0) hRy
    have a4:=blk_cell (j:=1) hRy
    have a5:=blk_cell (j:=2) hRy
    have a6:=blk_free (j:=0) hRy
    have a7:=blk_free (j:=1) hRy
    have a8:=blk_free (j:=2) hRy
    simp at a0 a1 a2 a3 a4 a5
    have HCY:=hd_ hCy;have GBY:=hd_ gby;have HRY:=hd_ hRy
    clear hCy gby hRy h7y HX HR H7
    go_wp2
    have b0:=blk_set3 (p:=.int .i64 (pa0:Nat)) (q:=.int .i64 (pb0:Nat)) (r:=.int .i64 0) HRY.out
    exact rq34
theorem ask_second {l:List Nd} (h400:l.length<=400) {gp:Nat} {A:Option Addr} {c:Nat} (w0:World) (hpl:IsPlan w0 gp A c l) (hnl:Nds w0 w0.heap.size A l) {gs bm W:Nat} {i col:Nat} {w:World} (hcs:CS w0 gs gp bm W l w) (hcol:col<=2000000)
  {f:Value->Option Value} (hmf:MapF Tryz.prog 173 f bm w) (hv:f (spotV i col)=none) (hlt:i<l.length) {t0 t1:ByteArray} {i0 i1 ea0 eb0 col0 da0 db0 pa0 pb0 ea1 eb1 col1 da1 db1 pa1 pb1:Nat} {ch0 ch1:Int}
  (hpc:∀ w,IsPlan w gp A c l->Nds w w.heap.size A l->Calls Tryz.prog 159 #[.pointer (some ⟨gp,0,none⟩),.int .i64 i] w (Ret w (.tuple #[.string t1,.int .i64 (i:Nat),.bool true])))
  (hch0:∀ w,IsPlan w gp A c l->Nds w w.heap.size A l->Calls Tryz.prog 162 #[.pointer (some ⟨gp,0,none⟩),.int .i64 i,.int .i64 0] w (Ret w (.tuple #[.string t0,.int .i64 (i0:Nat),.bool true])))
  (hch1:∀ w,IsPlan w gp A c l->Nds w w.heap.size A l->Calls Tryz.prog 162 #[.pointer (some ⟨gp,0,none⟩),.int .i64 i,.int .i64 1] w (Ret w (.tuple #[.string t1,.int .i64 (i1:Nat),.bool true])))
  (hput0:∀ W':World,W'.heap[gs]?=some (.cells #[.pointer (some ⟨gp,0,none⟩),.int .i64 (W:Nat),.map (some bm)] 168 (0,0))->Calls Tryz.prog 160 #[.pointer (some ⟨gs,0,none⟩),.string t0,.int .i64 (col:Nat)] W' (Ret W' (.tuple #[.agg #[.int .i64 (ea0:Nat),.int .i64 (eb0:Nat)],.int .i64 (col0:Nat)])))
  (hcp0:∀ W':World,CS w0 gs gp bm W l W'->Calls Tryz.prog 90 #[.pointer (some ⟨gs,0,none⟩),.agg #[.int .i64 (i0:Nat),.int .i64 (col0:Nat)]] W' (CheapTo w0 gs gp bm W l (.agg #[.int .i64 (da0:Nat),.int .i64 (db0:Nat),.int .i64 ch0]) W'))
  (hpl0:∀ W':World,Calls Tryz.prog 161 #[.agg #[.int .i64 (ea0:Nat),.int .i64 (eb0:Nat)],.agg #[.int .i64 (da0:Nat),.int .i64 (db0:Nat)]] W' (Ret W' (.agg #[.int .i64 (pa0:Nat),.int .i64 (pb0:Nat)])))
  (hput1:∀ W':World,W'.heap[gs]?=some (.cells #[.pointer (some ⟨gp,0,none⟩),.int .i64 (W:Nat),.map (some bm)] 168 (0,0))->Calls Tryz.prog 160 #[.pointer (some ⟨gs,0,none⟩),.string t1,.int .i64 (col:Nat)] W' (Ret W' (.tuple #[.agg #[.int .i64 (ea1:Nat),.int .i64 (eb1:Nat)],.int .i64 (col1:Nat)])))
  (hcp1:∀ W':World,CS w0 gs gp bm W l W'->Calls Tryz.prog 90 #[.pointer (some ⟨gs,0,none⟩),.agg #[.int .i64 (i1:Nat),.int .i64 (col1:Nat)]] W' (CheapTo w0 gs gp bm W l (.agg #[.int .i64 (da1:Nat),.int .i64 (db1:Nat),.int .i64 ch1]) W'))
  (hpl1:∀ W':World,Calls Tryz.prog 161 #[.agg #[.int .i64 (ea1:Nat),.int .i64 (eb1:Nat)],.agg #[.int .i64 (da1:Nat),.int .i64 (db1:Nat)]] W' (Ret W' (.agg #[.int .i64 (pa1:Nat),.int .i64 (pb1:Nat)])))
  (hun:∀ W':World,Calls Tryz.prog 163 #[.agg #[.int .i64 (pa1:Nat),.int .i64 (pb1:Nat)],.agg #[.int .i64 (pa0:Nat),.int .i64 (pb0:Nat)]] W' (Ret W' (.bool true)))
  (hkn:∀ f':Value->Option Value,KnownC l W f'->KnownC l W (putF f' (.agg #[.int .i64 (i:Nat),.int .i64 (col:Nat)]) (.agg #[.int .i64 (pa1:Nat),.int .i64 (pb1:Nat),.int .i64 1]))) :
  Calls Tryz.prog 90 #[.pointer (some ⟨gs,0,none⟩),spotV i col] w (CheapTo w0 gs gp bm W l (.agg #[.int .i64 (pa1:Nat),.int .i64 (pb1:Nat),.int .i64 1]) w):=by
 obtain ⟨kl,hkl⟩:=spot_key (i:=i) (col:=col) (by omega) (by omega)
 have HPC:=hd_ hpc;have HCH0:=hd_ hch0;have HCH1:=hd_ hch1;have HPUT1:=hd_ hput1;have HCP1:=hd_ hcp1;have HPL1:=hd_ hpl1;have HKN:=hd_ hkn
 have HPUT0:=hd_ hput0;have HCP0:=hd_ hcp0;have HPL0:=hd_ hpl0
 clear hput0 hcp0 hpl0
 have HUN:=hd_ hun
 clear hun
 clear hpc hch0 hch1 hput1 hcp1 hpl1 hkn
 have hml:=hcs.mlt
 have hms:=hcs.ms
 have hsl:=lt_of_heap hcs.blk
 obtain ⟨gn,gd,ge,gf',gi,cf,ci,hpa⟩:=hpl.past hcs.bel
 have z0:=hpa.c0
 have hgp:=hpa.lp
 have hne:((i:Int)==(l.length:Int))=false:=by rw [beq_eq_false_iff_ne];omega
 have y0:=blk_cell (j:=0) hcs.blk
 have y2:=blk_cell (j:=2) hcs.blk
 simp at y0 y2
 have hb1:∀ o1 o2,Below w.heap.size w ((w.alloc o1).alloc o2):=fun o1 o2=>((Below.refl _ _).alloc (Nat.le_refl _) _).alloc (by simp) _
 have HW:∀ (o2:Obj) W',Below (((w.alloc (.cells #[.int .i64 (i:Nat),.int .i64 (col:Nat)] 173)).alloc o2).heap.size) ((w.alloc (.cells #[.int .i64 (i:Nat),.int .i64 (col:Nat)] 173)).alloc o2) W'->HeadIs gs gp bm A c l.length w.heap.size i col f W':=fun o2 W' hW'=>by
  exact rq29
 unfold HeadIs at HW
 simp only [hv,Option.getD_none,Option.isSome_none] at HW
 unfold spotV
 have HBX:Hid (∀ W',Below (((w.alloc (.cells #[.int .i64 (i:Nat),.int .i64 (col:Nat)] 173)).alloc (.cells #[.int .i64 0,.int .i64 0,.int .i64 0] 170)).heap.size) ((w.alloc (.cells #[.int .i64 (i:Nat),.int .i64 (col:Nat)] 173)).alloc (.cells #[.int .i64 0,.int .i64 0,.int .i64 0] 170)) W'->W'.heap[w.heap.size]?=some (.cells #[.int .i64 (i:Nat),.int .i64 (col:Nat)] 173 (0,0))/\W'.heap[w.heap.size+1]?=some (.cells #[.int .i64 0,.int .i64 0,.int .i64 0] 170 (0,0))) :=
  hd_ (fun W' hb=>⟨blk_below ((Below.heap_alloc _ _ _ (by simp)).trans (heap_new rfl)) hb,blk_below (heap_new (by simp)) hb⟩)
 have HGS:Hid (∀ W',Below w.heap.size w W'->W'.heap[gs]?=some (.cells #[.pointer (some ⟨gp,0,none⟩),.int .i64 (W:Nat),.map (some bm)] 168 (0,0))):=hd_ (fun W' hb=>blk_below hcs.blk hb)
 have HWW:=hd_ HW
 have HCS:=hd_ hcs;have HKL:=hd_ hkl
 have HPN:Hid (∀ W',Below w0.heap.size w0 W'->IsPlan W' gp A c l/\Nds W' W'.heap.size A l):=hd_ (fun W' hb=>⟨hpl.past hb,hnl.past hb⟩)
 have HPN1:Hid (∀ W',Below w.heap.size w W'->IsPlan W' gp A c l/\Nds W' W'.heap.size A l):=hd_ (fun W' hb=>HPN.out W' (hcs.bel.trans (hb.mono hcs.bel.size)))
 clear HW hpa hkl hcs hmf hv hpl y0 y2 z0 hnl
 go_enter Tryz.func90,Tryz.ntmps90
 go_wp2
 obtain ⟨q0,q2,z0,x0,x1,hl⟩:=HWW.out (.cells #[.int .i64 0,.int .i64 0,.int .i64 0] 170) _ (Below.refl _ _)
 clear hl
 go_quiet (fail)
 go_upto_region 3 with fail
 have hlk:∀ n:Nat,(Instr.lookup 166 (.map (some bm)) (.agg #[.int .i64 (i:Nat),.int .i64 (col:Nat)]) true).run Tryz.prog (((w.alloc (.cells #[.int .i64 (i:Nat),.int .i64 (col:Nat)] 173)).alloc (.cells #[.int .i64 0,.int .i64 0,.int .i64 0] 170)).drewN n)=.ok (.tuple #[.agg #[.int .i64 0,.int .i64 0,.int .i64 0],.bool false]) (((w.alloc (.cells #[.int .i64 (i:Nat),.int .i64 (col:Nat)] 173)).alloc (.cells #[.int .i64 0,.int .i64 0,.int .i64 0] 170)).drewN n) :=
  fun n=>(HWW.out _ _ (below_drewN (Below.refl _ _) n)).2.2.2.2.2
 have hlk2:∀ n:Nat,(Instr.lookup 166 (.map (some bm)) (.agg #[.int .i64 (i:Nat),.int .i64 (col:Nat)]) true).run Tryz.prog ((((w.alloc (.cells #[.int .i64 (i:Nat),.int .i64 (col:Nat)] 173)).alloc (.cells #[.int .i64 0,.int .i64 0,.int .i64 0] 170)).drewN n).alloc (.cells #[.int .i64 0,.int .i64 0,.int .i64 0] 170))=.ok (.tuple #[.agg #[.int .i64 0,.int .i64 0,.int .i64 0],.bool false]) ((((w.alloc (.cells #[.int .i64 (i:Nat),.int .i64 (col:Nat)] 173)).alloc (.cells #[.int .i64 0,.int .i64 0,.int .i64 0] 170)).drewN n).alloc (.cells #[.int .i64 0,.int .i64 0,.int .i64 0] 170)) :=
  fun n=>(HWW.out (.cells #[.int .i64 0,.int .i64 0,.int .i64 0] 170) ((((w.alloc (.cells #[.int .i64 (i:Nat),.int .i64 (col:Nat)] 173)).alloc (.cells #[.int .i64 0,.int .i64 0,.int .i64 0] 170)).drewN n).alloc (.cells #[.int .i64 0,.int .i64 0,.int .i64 0] 170)) bel_).2.2.2.2.2
 go_cut [6] from 31 to 39 (fun s6 wx=>s6=.bool false/\Below w.heap.size w wx/\wx.heap[w.heap.size]?=some (.cells #[.int .i64 (i:Nat),.int .i64 (col:Nat)] 173 (0,0))/\wx.heap[w.heap.size+1]?=some (.cells #[.int .i64 0,.int .i64 0,.int .i64 0] 170 (0,0)))
 case first =>
  exact rq28
 case rest =>
  obtain ⟨rfl,hBx,hX,hR⟩:=hcut
  clear hlk hlk2 x0 x1 z0 q0 q2 HBX HWW
  go_wp2_with fail
  refine wp_named (fun w3=>Below w.heap.size w w3/\w3.heap[w.heap.size]?=some (.cells #[.int .i64 (i:Nat),.int .i64 (col:Nat)] 173 (0,0))/\w3.heap[w.heap.size+1]?=some (.cells #[.int .i64 0,.int .i64 0,.int .i64 0] 170 (0,0))/\w3.heap[wc.heap.size]?=some (.cells #[.int .i64 0,.int .i64 0,.int .i64 (-1)] 170 (0,0)))
   ⟨hBx.alloc hBx.size _,(Below.heap_alloc _ _ _ (lt_of_heap hX)).trans hX,(Below.heap_alloc _ _ _ (lt_of_heap hR)).trans hR,heap_new rfl⟩ ?_
  rintro w3 ⟨hB3,hX3,hR3,h73⟩
  obtain ⟨b7,hb7⟩:∃ b7,wc.heap.size=b7:=⟨_,rfl⟩
  rw [hb7] at h73 ⊢
  have hb7':w.heap.size+2<=b7:=by rw [← hb7];exact lt_of_heap hR
  clear hb7 hX hR hBx
  have e0:=blk_cell (j:=0) (HGS.out w3 hB3)
  have e1:=blk_cell (j:=0) hX3
  simp at e0 e1
  go_region_held3 (fun w'=>w'.cell? ⟨gs,0,none⟩=some (.pointer (some ⟨gp,0,none⟩))/\w'.cell? ⟨w.heap.size,0,none⟩=some (.int .i64 (i:Nat)))
   (first|exact ⟨e0,e1⟩|exact ⟨e0',e1'⟩)
   ((go_at_call 159;refine (HPC.out _ (HPN1.out _ bel_).1 (HPN1.out _ bel_).2).mono ?_;rintro e w4 ⟨rfl,hB4⟩;have e0':=(hB4.cell (p:=⟨gs,0,none⟩) (lt_of_heap (HGS.out w3 hB3))).trans e0;have e1':=(hB4.cell (p:=⟨w.heap.size,0,none⟩) (lt_of_heap hX3)).trans e1))
  have hB34:Below w3.heap.size w3 w4:=by first|exact hB4|exact past_drew hB4|exact past_drewN hB4
  have HC4:=hd_ (HCS.out.past (hB3.trans (hB34.mono hB3.size)))
  have GB4:=hd_ (gb_of_below (hB3.trans (hB34.mono hB3.size)) bm)
  have HX4:=hd_ (blk_below hX3 hB34)
  have HR4:=hd_ (blk_below hR3 hB34)
  have H74:=hd_ (blk_below h73 hB34)
  clear hB4 hB34 hB3 hX3 hR3 h73 e0 e1 e0' e1'
  go_wp2_with fail
  go_loopw [13] (fun s13 wr=>CS w0 gs gp bm W l wr/\w.grownBy wr (some bm)/\wr.heap[w.heap.size]?=some (.cells #[.int .i64 (i:Nat),.int .i64 (col:Nat)] 173 (0,0))/\wr.heap[w.heap.size+1]?=some (.cells #[.int .i64 0,.int .i64 0,.int .i64 0] 170 (0,0))/\((s13=.int .i64 0/\wr.heap[b7]?=some (.cells #[.int .i64 0,.int .i64 0,.int .i64 (-1)] 170 (0,0)))∨(s13=.int .i64 1/\wr.heap[b7]?=some (.cells #[.int .i64 (pa0:Nat),.int .i64 (pb0:Nat),.int .i64 0] 170 (0,0)))∨(s13=.int .i64 2/\wr.heap[b7]?=some (.cells #[.int .i64 (pa1:Nat),.int .i64 (pb1:Nat),.int .i64 1] 170 (0,0))))) (fun s13 _=>2-(intOf s13).toNat)
  case atStart=>exact ⟨HC4.out,GB4.out,HX4.out,HR4.out,.inl ⟨rfl,H74.out⟩⟩
  case round =>
   obtain ⟨hcr,hgr,hxr,hrr,h7r⟩:=hrel
   have HC:=hd_ hcr;have GB:=hd_ hgr;have HX:=hd_ hxr;have HR:=hd_ hrr
   have HPW:Hid (∀ W',Below wr.heap.size wr W'->IsPlan W' gp A c l/\Nds W' W'.heap.size A l):=hd_ (fun W' hb=>HPN.out W' (hcr.bel.trans (hb.mono hcr.bel.size)))
   clear hcr hgr hxr hrr HC4 GB4 HX4 HR4 H74
   rcases h7r with ⟨rfl,h7c⟩|⟨rfl,h7c⟩|⟨rfl,h7c⟩
   ·exact rq25
   ·have H7:=hd_ h7c
    clear h7c
    have e0:=blk_cell (j:=0) HC.out.blk
    have e1:=blk_cell (j:=0) HX.out
    simp at e0 e1
    go_wp2_with fail
    go_region_held3 (fun w'=>w'.cell? ⟨gs,0,none⟩=some (.pointer (some ⟨gp,0,none⟩))/\w'.cell? ⟨w.heap.size,0,none⟩=some (.int .i64 (i:Nat)))
     (first|exact ⟨e0,e1⟩|exact ⟨e0',e1'⟩)
     ((go_at_call 162;refine (HCH1.out _ (HPW.out _ bel_).1 (HPW.out _ bel_).2).mono ?_;rintro e w4 ⟨rfl,hB4⟩;have e0':=(hB4.cell (p:=⟨gs,0,none⟩) (lt_of_heap HC.out.blk)).trans e0;have e1':=(hB4.cell (p:=⟨w.heap.size,0,none⟩) (lt_of_heap HX.out)).trans e1))
    have hB34:Below wr.heap.size wr w4:=by first|exact hB4|exact past_drew hB4|exact past_drewN hB4
    have HC4:=hd_ (HC.out.past hB34);have GB4:=hd_ (gb_below GB.out hB34);have HX4:=hd_ (blk_below HX.out hB34);have HR4:=hd_ (blk_below HR.out hB34);have H74:=hd_ (blk_below H7.out hB34)
    have e2:=blk_cell (j:=1) HX4.out
    simp at e2
    clear hB4 hB34 e0 e1 e0' e1' HC GB HX HR H7
    go_wp2_with (go_at_call 160;refine (HPUT1.out _ HC4.out.blk).mono ?_;rintro e w5 ⟨rfl,hB5⟩)
    refine wp_named (fun w6=>CS w0 gs gp bm W l w6/\w.grownBy w6 (some bm)/\w6.heap[w.heap.size]?=some (.cells #[.int .i64 (i:Nat),.int .i64 (col:Nat)] 173 (0,0))/\w6.heap[w.heap.size+1]?=some (.cells #[.int .i64 0,.int .i64 0,.int .i64 0] 170 (0,0))/\w6.heap[b7]?=some (.cells #[.int .i64 (pa0:Nat),.int .i64 (pb0:Nat),.int .i64 0] 170 (0,0))/\w6.heap[w5.heap.size]?=some (.cells #[.int .i64 (ea1:Nat),.int .i64 (eb1:Nat)] 113 (0,0)))
     ⟨(HC4.out.past hB5).past ((Below.refl _ _).alloc (Nat.le_refl _) _),gb_alloc (gb_below GB4.out hB5) _,(Below.heap_alloc _ _ _ (lt_of_heap (blk_below HX4.out hB5))).trans (blk_below HX4.out hB5),(Below.heap_alloc _ _ _ (lt_of_heap (blk_below HR4.out hB5))).trans (blk_below HR4.out hB5),(Below.heap_alloc _ _ _ (lt_of_heap (blk_below H74.out hB5))).trans (blk_below H74.out hB5),heap_new rfl⟩ ?_
    rintro w6 ⟨hc6,hg6,hX6,hR6,h76,h116⟩
    obtain ⟨b11,hb11⟩:∃ b11,w5.heap.size=b11:=⟨_,rfl⟩
    rw [hb11] at h116 ⊢
    have hb11':b7<b11:=by rw [← hb11];exact lt_of_heap (blk_below H74.out hB5)
    clear hb11 hB5 e2 HC4 GB4 HX4 HR4 H74
    have f0:=blk_cell (j:=0) h116
    have f1:=blk_cell (j:=1) h116
    simp at f0 f1
    have hfld:=course_cost
    have HC6:Hid (∀ W',Below w6.heap.size w6 W'->CS w0 gs gp bm W l W'):=hd_ (fun W' hb=>hc6.past hb)
    have HG6:=hd_ hg6
    clear hc6 hg6
    go_region_with (first
      | (go_at_call 90;refine (HCP1.out _ (HC6.out _ bel_)).mono ?_;rintro e w7 ⟨rfl,hcs7,hg7⟩;have HC7:=hd_ hcs7;have HG7:=hd_ hg7;have h117:=blk_gb' hg7 h116 (by omega);have f0':=(show w7.cell? ⟨b11,0,none⟩=some (.int .i64 (ea1:Nat)) from blk_cell (j:=0) h117);have f1':=(show w7.cell? ⟨b11,1,none⟩=some (.int .i64 (eb1:Nat)) from blk_cell (j:=1) h117);clear hcs7 hg7)
      | (go_at_call 161;refine (HPL1.out _).mono ?_;rintro e w8 ⟨rfl,hB8⟩;have HB8:=hd_ hB8;have f0'':=(hB8.cell (p:=⟨b11,0,none⟩) (lt_of_heap h117)).trans f0';have f1'':=(hB8.cell (p:=⟨b11,1,none⟩) (lt_of_heap h117)).trans f1';have k0:=(hB8.frozen (p:=⟨b11,0,none⟩) (lt_of_heap h117)).trans (blk_free (j:=0) h117);have k1:=(hB8.frozen (p:=⟨b11,1,none⟩) (lt_of_heap h117)).trans (blk_free (j:=1) h117);clear hB8))
    all_goals
     have hB78:Below w7.heap.size w7 w8:=by first|exact HB8.out|exact past_drew HB8.out|exact past_drewN HB8.out
     have gb7:w.grownBy w7 (some bm):=grown_trans (by first|exact HG6.out|exact gb_drew HG6.out|exact gb_drewN HG6.out _) HG7.out
     have HG8:=hd_ (gb_below gb7 hB78)
     have HC8:=hd_ (HC7.out.past hB78)
     have hX8:=blk_below (blk_gb' HG7.out hX6 (by omega)) hB78
     have hR8:=blk_below (blk_gb' HG7.out hR6 (by omega)) hB78
     have h78:=blk_below (blk_gb' HG7.out h76 (by omega)) hB78
     have h118:=blk_below h117 hB78
     clear f0 f1 f0' f1' f0'' f1'' k0 k1 hfld h117 HB8 HG7 HC7 gb7 hB78 hX6 hR6 h76 h116 HC6 HG6
     refine then_named (fun w9=>CS w0 gs gp bm W l w9/\w.grownBy w9 (some bm)/\w9.heap[w.heap.size]?=some (.cells #[.int .i64 (i:Nat),.int .i64 (col:Nat)] 173 (0,0))/\w9.heap[w.heap.size+1]?=some (.cells #[.int .i64 0,.int .i64 0,.int .i64 0] 170 (0,0))/\w9.heap[b7]?=some (.cells #[.int .i64 (pa0:Nat),.int .i64 (pb0:Nat),.int .i64 0] 170 (0,0))/\w9.heap[b11]?=some (.cells #[.int .i64 (pa1:Nat),.int .i64 (pb1:Nat)] 113 (0,0)))
      ⟨HC8.out.set2_ (by omega) (by omega) (by have:=HCS.out.bel.size;omega) _ _,gb_set2 HG8.out (by omega) _ _,blk_far2 hX8 (by omega) _ _,blk_far2 hR8 (by omega) _ _,blk_far2 h78 (by omega) _ _,blk_set2 h118⟩ ?_
     rintro w9 ⟨hC9,gb9,hX9,hR9,h79,h119⟩
     have HC9:=hd_ hC9;have GB9:=hd_ gb9;have HX9:=hd_ hX9;have HR9:=hd_ hR9;have H79:=hd_ h79;have H119:=hd_ h119
     clear hC9 gb9 hX9 hR9 h79 h119 hX8 hR8 h78 h118 HC8 HG8
     have m0:=blk_cell (j:=0) H79.out
     have m1:=blk_cell (j:=1) H79.out
     have m2:=blk_cell (j:=2) H79.out
     have m3:=blk_cell (j:=0) H119.out
     have m4:=blk_cell (j:=1) H119.out
     have m5:=blk_free (j:=0) H79.out
     have m6:=blk_free (j:=1) H79.out
     have m7:=blk_free (j:=2) H79.out
     simp at m0 m1 m2 m3 m4
     go_wp2_with (go_at_call 163;refine (HUN.out _).mono ?_;rintro e w10 ⟨rfl,hB10⟩;have n3:=(hB10.cell (p:=⟨b11,0,none⟩) (lt_of_heap H119.out)).trans m3;have n4:=(hB10.cell (p:=⟨b11,1,none⟩) (lt_of_heap H119.out)).trans m4;have n0:=(hB10.cell (p:=⟨b7,0,none⟩) (lt_of_heap H79.out)).trans m0;have n1:=(hB10.cell (p:=⟨b7,1,none⟩) (lt_of_heap H79.out)).trans m1;have n2:=(hB10.cell (p:=⟨b7,2,none⟩) (lt_of_heap H79.out)).trans m2;have n5:=(hB10.frozen (p:=⟨b7,0,none⟩) (lt_of_heap H79.out)).trans m5;have n6:=(hB10.frozen (p:=⟨b7,1,none⟩) (lt_of_heap H79.out)).trans m6;have n7:=(hB10.frozen (p:=⟨b7,2,none⟩) (lt_of_heap H79.out)).trans m7)
     go_roundw
     case measure=>simp [intOf]
     case rel=>exact ⟨(HC9.out.past hB10).set3_ (by omega) (by omega) (by have:=HCS.out.bel.size;omega) _ _ _,gb_set3 (gb_below GB9.out hB10) (by omega) _ _ _,blk_far3 (blk_below HX9.out hB10) (by omega) _ _ _,blk_far3 (blk_below HR9.out hB10) (by omega) _ _ _,.inr (.inr ⟨by first|rfl|go_num,blk_set3 (blk_below H79.out hB10)⟩)⟩
   exact rq26
end Go.Proofs.YtddfdmopaeghnadGreatDoor
