/- Plain facts: the reference's EndOf on whatever nodes, and its meeting with the tree form. No program, no condition. -/
import Derived.Test.YtddfdmopaeghnacDoorDocP
namespace Go.Proofs.YtddfdmopaeghnacDoor

/-- The place behind the doc at i, none: there is none such; with fuel. -/
def eoF (l : List Nd) : Nat → Nat → Option Nat
  | 0, _ => none
  | f + 1, i =>
    if l.length ≤ i then none
    else if parts (l.getD i ⟨0, .empty, 0⟩).op = 2 then
      match eoF l f (i + 1) with
      | none => none
      | some c => eoF l f c
    else if parts (l.getD i ⟨0, .empty, 0⟩).op = 1 then eoF l f (i + 1)
    else some (i + 1)

theorem eoF_gt {l : List Nd} : ∀ {f i c : Nat}, eoF l f i = some c → i < c ∧ c ≤ l.length := by
  intro f
  induction f with
  | zero => intro i c h; cases h
  | succ f ih =>
    intro i c h
    simp only [eoF] at h
    split at h
    · cases h
    · split at h
      · split at h
        · cases h
        · rename_i c' hc
          have h1 := ih hc
          have h2 := ih h
          omega
      · split at h
        · have := ih h; omega
        · cases h; omega

theorem eoF_doc {l : List Nd} : ∀ {f i c : Nat}, eoF l f i = some c → ∃ x : D, x.ok ∧ l.drop i = x.enc ++ l.drop c ∧ c = i + x.sz := by
  intro f
  induction f with
  | zero => intro i c h; cases h
  | succ f ih =>
    intro i c h
    simp only [eoF] at h
    split at h
    · cases h
    · rename_i hi
      have hi' : i < l.length := by omega
      have hg : l.getD i ⟨0, .empty, 0⟩ = l[i] := by simp [hi']
      rw [hg] at h
      have hcons := List.drop_eq_getElem_cons hi'
      split at h
      · rename_i hp
        split at h
        · cases h
        · rename_i c' hc
          obtain ⟨a, oa, da, ea⟩ := ih hc
          obtain ⟨b, ob, db, eb⟩ := ih h
          exact ⟨.bin l[i] a b, ⟨hp, oa, ob⟩, by rw [hcons, da, db]; simp [D.enc], by simp only [D.sz]; omega⟩
      · split at h
        · rename_i hp
          obtain ⟨a, oa, da, ea⟩ := ih h
          exact ⟨.un l[i] a, ⟨hp, oa⟩, by rw [hcons, da]; simp [D.enc], by simp only [D.sz]; omega⟩
        · rename_i h2 h1
          have := parts_bd l[i].op
          cases h
          exact ⟨.leaf l[i], by show parts l[i].op = 0; omega, by rw [hcons]; simp [D.enc], by simp [D.sz]⟩

theorem eoF_of {l : List Nd} : ∀ {x : D} {f i : Nat} {r : List Nd}, x.ok → l.drop i = x.enc ++ r → l.length ≤ i + f → eoF l f i = some (i + x.sz) := by
  intro x
  induction x with
  | leaf d =>
    intro f i r hx hd hf
    have hlen : (l.drop i).length = 1 + r.length := by rw [hd]; simp [D.enc]; omega
    rw [List.length_drop] at hlen
    have hi : i < l.length := by omega
    have hget : l.getD i ⟨0, .empty, 0⟩ = d := by
      have h1 := List.drop_eq_getElem_cons hi
      rw [hd] at h1
      simp only [D.enc, List.cons_append, List.cons.injEq] at h1
      simp [hi, h1.1]
    match f with
    | 0 => omega
    | f + 1 =>
      simp only [D.ok] at hx
      simp only [eoF, hget, hx, D.sz]
      rw [if_neg (by omega)]; rfl
  | un d a ih =>
    intro f i r hx hd hf
    have hlen : (l.drop i).length = 1 + a.sz + r.length := by rw [hd]; simp [D.enc, D.len_enc]; omega
    rw [List.length_drop] at hlen
    have hi : i < l.length := by omega
    have h1 := List.drop_eq_getElem_cons hi
    rw [hd] at h1
    simp only [D.enc, List.cons_append, List.cons.injEq] at h1
    have hget : l.getD i ⟨0, .empty, 0⟩ = d := by simp [hi, h1.1]
    match f with
    | 0 => omega
    | f + 1 =>
      obtain ⟨hx1, hx2⟩ := hx
      simp only [eoF, hget, hx1, D.sz]
      rw [if_neg (by omega), if_neg (by decide), if_pos trivial, ih hx2 h1.2.symm (by omega)]
      congr 1; omega
  | bin d a b ia ib =>
    intro f i r hx hd hf
    have hlen : (l.drop i).length = 1 + a.sz + b.sz + r.length := by rw [hd]; simp [D.enc, D.len_enc]; omega
    rw [List.length_drop] at hlen
    have hi : i < l.length := by omega
    have h1 := List.drop_eq_getElem_cons hi
    rw [hd] at h1
    simp only [D.enc, List.cons_append, List.cons.injEq, List.append_assoc] at h1
    have hget : l.getD i ⟨0, .empty, 0⟩ = d := by simp [hi, h1.1]
    match f with
    | 0 => omega
    | f + 1 =>
      obtain ⟨hx1, hx2, hx3⟩ := hx
      have hd2 : l.drop (i + 1 + a.sz) = b.enc ++ r := by
        rw [← List.drop_drop, ← h1.2, List.drop_append, List.drop_eq_nil_of_le (by rw [D.len_enc]; omega), D.len_enc]; simp
      simp only [eoF, hget, hx1, D.sz]
      rw [if_neg (by omega), if_pos trivial, ia hx2 h1.2.symm (by omega)]
      simp only
      rw [ib hx3 hd2 (by omega)]
      congr 1; omega

/-- The place behind, as the reference gives it. -/
def endV (l : List Nd) (i : Nat) : Int := match eoF l (l.length - i) i with | some c => c | none => -1

theorem eoF_more {l : List Nd} {f i : Nat} (h : l.length ≤ i + f) : eoF l f i = eoF l (l.length - i) i := by
  cases h1 : eoF l f i with
  | some c =>
    obtain ⟨x, ox, dx, ex⟩ := eoF_doc h1
    rw [eoF_of ox dx (by omega), ex]
  | none =>
    cases h2 : eoF l (l.length - i) i with
    | none => rfl
    | some c =>
      obtain ⟨x, ox, dx, ex⟩ := eoF_doc h2
      rw [eoF_of ox dx h] at h1
      cases h1

theorem Doc.endV_ {l : List Nd} {x : D} (h : Doc l x) {i : Nat} (hi : i < l.length) : endV l i = endAt l i := by
  obtain ⟨r, h1, h2⟩ := h.at_ hi
  rw [endV, eoF_of h2 h1 (by omega)]; rfl

/-- What the reference finds of nodes that are each good. -/
theorem check_end {l : List Nd} (h4 : l.length ≤ 400) (ho : ∀ d ∈ l, oneF d.op d.text d.n = 0) : checkF l = if endV l 0 ≠ l.length ∨ l.length = 0 then 2 else 0 := by
  have good : ∀ (r : List Nd) (nd : Int) (wh : Bool), (∀ d ∈ r, oneF d.op d.text d.n = 0) → chk r nd wh = 0 ∨ chk r nd wh = 2 := by
    intro r
    induction r with
    | nil => intro nd wh _; simp only [chk]; split <;> simp
    | cons d r ih =>
      intro nd wh h
      rw [chk, if_neg (by simp [h d (by simp)])]
      exact ih _ _ (fun e he => h e (by simp [he]))
  by_cases hc : checkF l = 0
  · obtain ⟨x, hx⟩ := Doc.of_check hc
    have hsz : l.length = x.sz := by rw [hx.enc, D.len_enc]
    have := hx.pos
    rw [hc, if_neg]
    rw [hx.endV_ hx.pos, endAt, hx.root]
    omega
  · have h2 : checkF l = 2 := by
      have := good l 1 true ho
      unfold checkF at hc ⊢
      rw [if_neg (by omega)] at hc ⊢
      rcases this with h | h
      · exact absurd h hc
      · exact h
    rw [h2, if_pos]
    by_cases h0 : l.length = 0
    · exact .inr h0
    · left
      intro he
      apply hc
      unfold endV at he
      split at he
      · rename_i c hcc
        obtain ⟨x, ox, dx, ex⟩ := eoF_doc hcc
        have hcl : c = l.length := by omega
        refine Doc.check (x := x) ⟨ox, ?_, ho, h4⟩
        rw [List.drop_zero, hcl, List.drop_length, List.append_nil] at dx
        exact dx
      · omega
end Go.Proofs.YtddfdmopaeghnacDoor
