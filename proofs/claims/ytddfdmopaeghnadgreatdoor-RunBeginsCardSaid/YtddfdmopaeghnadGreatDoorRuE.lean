/- strings.Builder's WriteString: where the row of its text lies behind it. Conditions: the builder is the call's own, from block B on; the text is at most 2^47 bytes. A session's line, whatever it is; how long its answer may be, how long the text. Conditions: the text is not too long; the tables and the variables read as the program's text lays them. Walk: run.Run. Conditions: the tables and the variables read as the program's text lays them. Closed facts of the law, and the law in plain words. No condition. Law's walk: pargetrylaw2.RunBegins. Conditions: the number is an int; the tables and the variables read as the program's text lays them. -/
import Derived.Test.YtddfdmopaeghnadGreatDoorRuA
import Derived.Test.YtddfdmopaeghnadGreatDoorRuS
import Derived.Test.YtddfdmopaeghnadGreatDoorRqBe
import Derived.Test.YtddfdmopaeghnadGreatDoorRuC
import Derived.Test.YtddfdmopaeghnadGreatDoorRuD
import Derived.KernelRfl
namespace Go.Proofs.YtddfdmopaeghnadGreatDoor
open Go.Shelf Go.RowKit

theorem bw_used {B b : Nat} {bs : List Value} {p : Value} {w : World} (h : Lib.BuilderAtF 88 5 B b p bs w) (q : Value) : Lib.BuilderAtF 88 5 B b q bs (w.setCell ⟨b, 0, none⟩ q) := by
  obtain ⟨hB, v, hb, hown, hne⟩ := h
  refine ⟨hB, v, ?_, ?_, hne⟩
  · simp [World.setCell, Array.getElem?_modify, hb]
  · exact hown.kept (row := some b) ⟨rfl, rfl, rfl, by simp [World.setCell], fun k _ hk => Below.heap_setCell _ _ _ _ (fun e => hk (by simp [e]))⟩ (Or.inr hne)

theorem bw_copyCheck (B b : Nat) (bs : List Value) (w : World) (h : Lib.IsBuilderF 88 5 B b bs w) :
    Calls Tryz.prog 60 #[.pointer (some ⟨b, 0, none⟩)] w fun e w' => e = .returned (.tuple #[]) ∧ (Lib.BuilderAtF 88 5 B b (.pointer (some ⟨b, 0, none⟩)) bs w' ∧ Below B w w' ∧ BesideR b w w' ∧ RsC b w w') := by
  rcases h with h | h
  · have h' := h
    obtain ⟨hB, v, hb, hown, hne⟩ := h'
    refine (Any.Builder_copyCheck_fresh { bldLays166 with } bldExtra.toX72 b w (by simp [World.cell?, hb]) (by simp [World.shape?, hb]; rfl) (Lib.frozen_of_heap hb 0)).mono ?_
    rintro e w' ⟨rfl, rfl⟩
    exact ⟨rfl, bw_used h _, (Below.refl B w).setCell (p := ⟨b, 0, none⟩) hB _, BesideR.set _ _ _, fun k hk => Below.heap_setCell _ _ _ _ hk, by simp [World.setCell], by simp [World.setCell, World.cell?, Array.getElem?_modify, hb]⟩
  · have h' := h
    obtain ⟨hB, v, hb, hown, hne⟩ := h'
    refine (Any.Builder_copyCheck_used { bldLays166 with } bldExtra.toX72 b w (by simp [World.cell?, hb])).mono ?_
    rintro e w' ⟨rfl, rfl⟩
    exact ⟨rfl, h, Below.refl B _, BesideR.refl _ _, fun _ _ => rfl, rfl, rfl⟩

set_option maxHeartbeats 2000000 in
set_option maxRecDepth 100000 in
theorem bw_write_ (B b : Nat) (bs : List Value) (s : ByteArray) (w : World) (h : Lib.IsBuilderF 88 5 B b bs w) (hlen : bs.length + s.size ≤ 140737488355328) (hBw : B ≤ w.heap.size) :
    Calls Tryz.prog 35 #[.pointer (some ⟨b, 0, none⟩), .string s] w fun e w' => e = .returned (.tuple #[.int .i64 s.size, .nilIface]) ∧ (Lib.BuilderAtF 88 5 B b (.pointer (some ⟨b, 0, none⟩)) (bs ++ Lib.strCells s) w' ∧ Below B w w' ∧ BesideR b w w' ∧ RsFr b w w') := by
  obtain ⟨i0, hi, hz0, hz1, hz2⟩ := info_parts rsbyte_info
  go_enter Tryz.func35, Tryz.ntmps35
  go_wp2_with (go_at_call 60; refine (bw_copyCheck B b bs _ h).mono ?_)
  rintro e w1 ⟨rfl, h1, hb1, hbz, hc⟩
  have HC := Lib.hid hc
  clear hc
  obtain ⟨hB, v, hbk, hown, hne⟩ := h1
  have c0 : w1.cell? ⟨b, 0, none⟩ = some (.pointer (some ⟨b, 0, none⟩)) := by rw [Lib.cell_of_heap hbk]; rfl
  have c1 : w1.cell? ⟨b, 1, none⟩ = some v := by rw [Lib.cell_of_heap hbk]; rfl
  go_wp2_with (at_builtin; refine wpList_append_where rfl _ _ 86 9 rfl B 5 i0 Tryz.underlying86 Tryz.underlying9 hi hz0 hz1 hz2 _ _ _ rfl hown s rfl ?c3 ?c4 ?c5 ?_)
  case c3 => unfold maxLen; omega
  case c4 => omega
  case c5 => have := hb1.size; omega
  intro v' w2 hown' hgrow hwh
  have hlt : b < w1.heap.size := by
    rcases Nat.lt_or_ge b w1.heap.size with h' | h'
    · exact h'
    · simp [Array.getElem?_eq_none h'] at hbk
  have hb2 : w2.heap[b]? = some (.cells #[.pointer (some ⟨b, 0, none⟩), v] 88 (0, 0)) := by
    rw [hgrow.block b hlt (fun e => hne e.symm)]
    exact hbk
  have d0 : w2.cell? ⟨b, 0, none⟩ = some (.pointer (some ⟨b, 0, none⟩)) := by rw [Lib.cell_of_heap hb2]; rfl
  have d1 : w2.cell? ⟨b, 1, none⟩ = some v := by rw [Lib.cell_of_heap hb2]; rfl
  have f1 : w2.frozen? ⟨b, 1, none⟩ = false := Lib.frozen_of_heap hb2 1
  obtain ⟨ao, n', cap, rfl⟩ : ∃ ao n' cap, v' = .slice ao n' cap := by
    rcases hown'.2 with ⟨hv, _⟩ | ⟨g, cap, cur, fz, hv, _⟩
    · exact ⟨_, _, _, hv⟩
    · exact ⟨_, _, _, hv⟩
  go_wp2
  go_ret2
  obtain ⟨hc1, hc2, hc3⟩ := HC.out
  refine ⟨rfl, ?_, ?_, hbz.trans ((BesideR.grown hown hgrow).trans (BesideR.set _ _ _)), ?_, ?_⟩
  · have hown'' : w2.ownsRowF B 5 1 (.slice ao n' cap) (bs ++ Lib.strCells s).length (bs ++ Lib.strCells s) := by simpa [Lib.strCells_length] using hown'
    have hne' : (Value.slice ao n' cap).ownBlock ≠ some b := Lib.ownBlock_neF hown'' hb2 (by decide)
    refine ⟨hB, _, ?_, ?_, hne'⟩
    · simp [World.setCell, Array.getElem?_modify, hb2]
    · exact hown''.kept (row := some b) ⟨rfl, rfl, rfl, by simp [World.setCell], fun k _ hk => Below.heap_setCell _ _ _ _ (fun e => hk (by simp [e]))⟩ (Or.inr hne')
  · exact (hb1.grown hgrow (by have := hb1.size; omega) (fun k hk => (hown.lt k hk).1)).setCell (p := ⟨b, 1, none⟩) hB _
  · intro v2 hv2 k hk hne2 hlt2
    rw [← hc3, c1] at hv2
    injection hv2 with hv2
    subst hv2
    exact (Below.heap_setCell _ _ _ _ hk).trans ((hgrow.block k (by omega) (fun e => hne2 e.symm)).trans (hc1 k hk))
  · intro v2 v3 g hv2 hv3 hg
    rw [← hc3, c1] at hv2
    injection hv2 with hv2
    subst hv2
    have : v3 = .slice ao n' cap := by
      simp [World.setCell, World.cell?, Array.getElem?_modify, hb2] at hv3
      exact hv3.symm
    subst this
    rw [← hc2]
    exact hwh g hg

theorem bw_write (B b : Nat) (s t : ByteArray) (w : World) (h : BldK B b s w) (hlen : s.size + t.size ≤ 140737488355328) :
    Calls Tryz.prog 35 #[.pointer (some ⟨b, 0, none⟩), .string t] w fun e w' => e = .returned (.tuple #[.int .i64 t.size, .nilIface]) ∧ BldK B b (s ++ t) w' ∧ Below B w w' ∧ BesideR b w w' ∧ RsFr b w w' :=
  (bw_write_ B b (Lib.strCells s) t w h.1 (by rw [Lib.strCells_length]; exact hlen) h.2).mono fun e w' ⟨he, hb, hB, hO, hF⟩ =>
    ⟨he, ⟨by rw [← strCells_app]; exact .inr hb, Nat.le_trans h.2 hB.size⟩, hB, hO, hF⟩
end Go.Proofs.YtddfdmopaeghnadGreatDoor

namespace Go.Proofs.YtddfdmopaeghnadGreatDoor
open Go.RowKit

theorem line_any {w0 : World} {d b : Nat} {x : Ses} {F : Nat → Prop} {w : World} (h : SesAt w0 d b x F w) (hG : RunG w0) (l : ByteArray) (hl : l.size ≤ 3000) (hx : x.s.size ≤ 6000) :
    Calls Tryz.prog 40 #[.pointer (some ⟨b, 0, none⟩), .string l] w (fun e w' => e = .returned (.string (lineS x l.data.toList).2) ∧ SesTo w0 d b (lineS x l.data.toList).1 F w w') := by
  unfold lineS
  cases h1 : behindL [43] l.data.toList with
  | some r => exact line_plus h l hl hx h1
  | none =>
    dsimp only
    cases h2 : behindL [119, 105, 100, 101, 32] l.data.toList with
    | some r =>
      dsimp only
      cases h3 : numF ⟨r.toArray⟩ with
      | some V => exact line_wide h hG l h1 h2 hl h3
      | none => exact line_unread h hG l h1 h2 hl h3
    | none =>
      dsimp only
      by_cases e1 : l.data.toList = [115, 101, 116]
      · rw [if_pos e1]; exact line_set h hG l e1 hx
      · rw [if_neg e1]
        by_cases e2 : l.data.toList = [116, 101, 120, 116]
        · rw [if_pos e2]; exact line_text h hG l e2
        · rw [if_neg e2]
          by_cases e3 : l.data.toList = [108, 111, 111, 107]
          · rw [if_pos e3]; exact line_look h hG l e3 hx
          · rw [if_neg e3]
            by_cases e4 : l.data.toList = [100, 114, 111, 112]
            · rw [if_pos e4]; exact line_drop h l e4
            · rw [if_neg e4]; exact line_bad h l h1 h2 e1 e2 e3 e4
theorem setS_s (x : Ses) : (setS x).1.s = x.s := by
  unfold setS
  split
  · split <;> rfl
  · rfl
theorem wideS_s (x : Ses) (V : Int) : (wideS x V).1.s = x.s := by
  unfold wideS
  split
  · split <;> rfl
  · rfl
theorem lineS_s (x : Ses) (l : List UInt8) : (lineS x l).1.s.size ≤ x.s.size + l.length := by
  unfold lineS
  cases h1 : behindL [43] l with
  | some r =>
    have h2 : l.length = r.length + 1 := by
      cases l with
      | nil => simp [behindL] at h1
      | cons c l =>
        simp only [behindL] at h1
        split at h1
        · cases h1; rfl
        · cases h1
    have e : (⟨(r ++ [10]).toArray⟩ : ByteArray).size = r.length + 1 := by simp [ByteArray.size]
    simp only [ByteArray.size_append, e]
    omega
  | none =>
    dsimp only
    cases behindL [119, 105, 100, 101, 32] l with
    | some r =>
      dsimp only
      cases numF ⟨r.toArray⟩ with
      | some V => simp only [wideS_s]; omega
      | none => simp
    | none =>
      dsimp only
      split
      · simp only [setS_s]; omega
      · split
        · simp
        · split
          · simp
          · split
            · simp
            · simp
theorem toldF_size (s : ByteArray) (k : Nat) (f : Int) : (toldF s k f).size ≤ s.size + k + 20 := by
  have h1 : (⟨#[10]⟩ : ByteArray).size = 1 := rfl
  have h2 : (⟨#[32]⟩ : ByteArray).size = 1 := rfl
  have h3 := errNm_size 5
  have h4 := errNm_size f
  have h5 := itoa_short k
  unfold toldF
  split
  · rw [ByteArray.size_append]; omega
  · split
    · rw [ByteArray.size_append, ByteArray.size_append, ByteArray.size_append]; omega
    · rw [ByteArray.size_append]; omega
theorem toldF_size0 (s : ByteArray) (f : Int) : (toldF s 0 f).size ≤ s.size + 20 := toldF_size s 0 f
theorem fmt_place (s : ByteArray) (W : Int) : (fmtF s W).2.1 ≤ s.size := by
  have hpl := place_le s
  unfold fmtF
  split
  · simp
  · split
    · exact hpl
    · split <;> simp
theorem lineS_out {x : Ses} (hx : x.s.size ≤ 6000) (hp : OnDesk x.W x.p) (l : List UInt8) : (lineS x l).2.size ≤ 70000000 := by
  have hok : okT.size = 3 := rfl
  have hbad : badT.size = 4 := rfl
  have h0 := itoaB_size 0 (by omega) (by omega)
  have hpl := place_le x.s
  unfold lineS
  split
  · rw [hok]; omega
  · split
    · split
      · have h1 : (⟨#[111, 107]⟩ : ByteArray).size = 2 := rfl
        have t := fun f => toldF_size0 ⟨#[111, 107]⟩ f
        unfold wideS
        split
        · split
          · have := t 0; simp only at this ⊢; omega
          · rename_i V _ _ _; have := t (formE V x.p); simp only at this ⊢; omega
        · have := t 1; simp only at this ⊢; omega
      · rw [hbad]; omega
    · split
      · unfold setS
        split
        · rename_i h1
          split
          · have hn := newN_le x.K (parseF x.s).2.2 []
            have h20 := (progF_facts (parsed_ok (s := x.s) h1)).1
            have hi := itoaB_size (newN x.K [] (parseF x.s).2.2 : Nat) (by omega) (by omega)
            have := toldF_size0 (itoaB (newN x.K [] (parseF x.s).2.2 : Nat)) 0
            simp only at this ⊢
            omega
          · have := toldF_size0 (itoaB 0) (formE x.W (parseF x.s).2.2)
            simp only at this ⊢
            omega
        · have := toldF_size (itoaB 0) (parseF x.s).2.1 (parseF x.s).1
          simp only at this ⊢
          omega
      · split
        · have h1 := rlnL_size (formT x.W x.p).size (formT x.W x.p).data.toList _ (List.prefix_refl _)
          rw [catB_lines] at h1
          have h2 : (formT x.W x.p).data.toList.length = (formT x.W x.p).size := rfl
          have h3 := formT_size (fun u hu => (hp.stm u hu).1) hp.few hp.fits
          rw [ByteArray.size_append]
          omega
        · split
          · unfold lookS
            split
            · have hd := difL_bd x.s.data.toList (fmtF x.s x.W).2.2.data.toList 0
              have h2 : x.s.data.toList.length = x.s.size := rfl
              have hi := itoaB_size (difL 0 x.s.data.toList (fmtF x.s x.W).2.2.data.toList) hd.1 (by omega)
              have := toldF_size0 (itoaB (difL 0 x.s.data.toList (fmtF x.s x.W).2.2.data.toList)) 0
              simp only at this ⊢
              omega
            · have hf := fmt_place x.s x.W
              have := toldF_size (itoaB 0) (fmtF x.s x.W).2.1 (fmtF x.s x.W).1
              simp only at this ⊢
              omega
          · split
            · rw [hok]; omega
            · rw [hbad]; omega
theorem SesAt.on {w0 : World} {d b : Nat} {x : Ses} {F : Nat → Prop} {w : World} (h : SesAt w0 d b x F w) : OnDesk x.W x.p := by
  obtain ⟨_, _, _, _, _, _, _, _, _, _, _, hon, _⟩ := h.desk
  exact hon
end Go.Proofs.YtddfdmopaeghnadGreatDoor

namespace Go.Proofs.YtddfdmopaeghnadGreatDoor
open Go.RowKit Go.Maps

/-- A builder's own blocks. -/
def BF (B : Nat) (w : World) (k : Nat) : Prop := k = B ∨ ∃ v, w.cell? ⟨B, 1, none⟩ = some v ∧ v.ownBlock = some k
theorem BldK.row {B b : Nat} {s : ByteArray} {w : World} (h : BldK B b s w) : ∃ p v, w.heap[b]? = some (.cells #[p, v] 88 (0, 0)) ∧ w.cell? ⟨b, 1, none⟩ = some v ∧ (∀ g, v.ownBlock = some g → B ≤ g ∧ g < w.heap.size) := by
  rcases h.1 with hh | hh <;>
  · obtain ⟨h1, v, h2, h3, h4⟩ := hh
    exact ⟨_, v, h2, by rw [Lib.cell_of_heap h2]; rfl, fun g hg => h3.lt g hg⟩
theorem BldK.few {B b : Nat} {s : ByteArray} {w : World} (h : BldK B b s w) : ∀ k, BF b w k → k < w.heap.size := by
  obtain ⟨p, v, h1, h2, h3⟩ := h.row
  rintro k (rfl | ⟨v', hv, hk⟩)
  · exact lt_of_heap h1
  · rw [h2] at hv
    cases hv
    exact (h3 k hk).2
/-- It stays where its own blocks do. -/
theorem BldK.keepF {B b : Nat} {s : ByteArray} {w w' : World} (h : BldK B b s w) (hz : w.heap.size ≤ w'.heap.size) (hk : ∀ k, BF b w k → w'.heap[k]? = w.heap[k]?) : BldK B b s w' ∧ w'.cell? ⟨b, 1, none⟩ = w.cell? ⟨b, 1, none⟩ := by
  have hb := hk b (.inl rfl)
  refine ⟨⟨?_, Nat.le_trans h.2 hz⟩, World.cell?_of_block (a := ⟨b, 1, none⟩) hb⟩
  have one : ∀ {p : Value}, Lib.BuilderAtF 88 5 B b p (Lib.strCells s) w → Lib.BuilderAtF 88 5 B b p (Lib.strCells s) w' := by
    intro p hh
    obtain ⟨h1, v, h2, h3, h4⟩ := hh
    refine ⟨h1, v, hb.trans h2, ⟨h3.1, ?_⟩, h4⟩
    rcases h3.2 with hn | ⟨g, cap, cur, fz, rfl, hbg, hg, rest⟩
    · exact .inl hn
    · exact .inr ⟨g, cap, cur, fz, rfl, hbg, (hk g (.inr ⟨_, by rw [Lib.cell_of_heap h2]; rfl, rfl⟩)).trans hg, rest⟩
  rcases h.1 with hh | hh
  · exact .inl (one hh)
  · exact .inr (one hh)
/-- Where blocks F alone were written; other blocks that are none of the session's. -/
theorem SesAt.turn {w0 : World} {d b : Nat} {x : Ses} {F G : Nat → Prop} {w w' : World} (h : SesAt w0 d b x F w) (hk : ∀ k, ¬ F k → k < w.heap.size → w'.heap[k]? = w.heap[k]?) (hz : w.heap.size ≤ w'.heap.size) (hb : Below w0.heap.size w0 w') (hG : ∀ k, G k → F k ∨ w.heap.size ≤ k) (hG1 : ∀ k, G k → k < w'.heap.size) : SesAt w0 d b x G w' := by
  have g := h.other hk hz hb
  obtain ⟨P, c, mv, lo, w1, h1, h2, h3, h4, h5, h6, h7, h8, h9, h10⟩ := h.desk
  have hs := h.text.1.blk.2.1
  have hd := lt_of_heap h1
  have hbb := hk b h.far.2 hs
  refine ⟨⟨P, c, mv, lo, w1, (hk d h.far.1 hd).trans h1, h2, h3.trans (fun k hl hlt => hk k (fun hF => by rcases h10 k hF with g | g <;> omega) (Nat.lt_of_lt_of_le hlt h3.1)) hz, h4, ?_, h6, h7, fun m e => ⟨(h8 m e).1, fun hg => ?_⟩, ?_, fun k hk => ?_⟩, g.text, h.lt, h.old, hb, hG1, fun hg => ?_, fun hg => ?_⟩
  · rcases h5 with g | ⟨m, f, rfl, hM, k3⟩
    · exact .inl g
    · exact .inr ⟨m, f, rfl, hM.of_block (hk m (h8 m rfl).2 hM.lt), k3⟩
  · rcases h5 with ⟨rfl, _⟩ | ⟨m', f, rfl, hM, _⟩
    · cases e
    · injection e with e
      injection e with e
      subst e
      rcases hG _ hg with g | g
      · exact (h8 _ rfl).2 g
      · have := hM.lt; omega
  · intro v g hv hg
    rw [World.cell?_of_block (w := w) (a := ⟨b, 1, none⟩) hbb] at hv
    refine ⟨(h9 v g hv hg).1, fun hg' => ?_⟩
    rcases hG _ hg' with k | k
    · exact (h9 v g hv hg).2 k
    · rcases h.text.1 with ⟨_, u, k2, k3, _⟩ | ⟨_, u, k2, k3, _⟩ <;>
      · rw [Lib.cell_of_heap k2] at hv
        simp at hv
        subst hv
        have := (k3.lt g hg).2
        omega
  · rcases hG _ hk with g | g
    · exact h10 k g
    · exact .inr (Nat.le_trans h3.1 g)
  · rcases hG _ hg with g | g
    · exact h.far.1 g
    · omega
  · rcases hG _ hg with g | g
    · exact h.far.2 g
    · omega
/-- Between two lines: the session, the builder of the answers. -/
structure RnI (w : World) (d b B : Nat) (x : Ses) (acc : ByteArray) (wr : World) : Prop where
  ses : SesAt w d b x (BF B wr) wr
  bld : BldK B B acc wr
  old : w.heap.size ≤ B
theorem RnI.past {w : World} {d b B : Nat} {x : Ses} {acc : ByteArray} {wr w' : World} (h : RnI w d b B x acc wr) (hb : Below wr.heap.size wr w') : RnI w d b B x acc w' := by
  have hc : w'.cell? ⟨B, 1, none⟩ = wr.cell? ⟨B, 1, none⟩ := World.cell?_of_block (a := ⟨B, 1, none⟩) (hb.block B h.bld.blk.2.1)
  refine ⟨h.ses.more hb (fun k hk => .inl ?_) ?_, h.bld.past hb, h.old⟩
  · unfold BF at hk ⊢
    rwa [hc] at hk
  · exact (h.bld.past hb).few
/-- Behind a line. -/
theorem RnI.line {w : World} {d b B : Nat} {x y : Ses} {acc : ByteArray} {wr w' : World} (h : RnI w d b B x acc wr) (hk : SesTo w d b y (BF B wr) wr w') : RnI w d b B y acc w' := by
  obtain ⟨h1, h2, h3⟩ := hk
  obtain ⟨g1, g2⟩ := h.bld.keepF h3 h2
  refine ⟨h1.more (Below.refl _ _) (fun k hk => .inl ?_) g1.few, g1, h.old⟩
  unfold BF at hk ⊢
  rwa [g2] at hk
/-- Behind a write. -/
theorem RnI.wrote {w : World} {d b B : Nat} {x : Ses} {acc t : ByteArray} {wr w' : World} (h : RnI w d b B x acc wr) (hb : BldK B B t w') (hB : Below B wr w') (hf : RsFr B wr w') : RnI w d b B x t w' := by
  obtain ⟨p, v, h1, h2, h3⟩ := h.bld.row
  refine ⟨h.ses.turn (fun k hk hl => hf.1 v h2 k (fun e => hk (.inl e)) (fun e => hk (.inr ⟨v, h2, e⟩)) hl) hB.size (h.ses.bel.trans (hB.mono h.old)) (fun k hk => ?_) hb.few, hb, h.old⟩
  rcases hk with rfl | ⟨v', hv, hg⟩
  · exact .inl (.inl rfl)
  · rcases hf.2 v v' k h2 hv hg with e | e
    · exact .inl (.inr ⟨v, h2, e⟩)
    · exact .inr e
theorem cutL_lens : ∀ l : List UInt8, (cutL l).1.length + (cutL l).2.length ≤ l.length
  | [] => by simp [cutL]
  | c :: r => by
    have := cutL_lens r
    by_cases h : c = 10
    · simp [cutL, h]
    · rw [cutL, if_neg h]
      simp only [List.length_cons]
      omega
theorem run_step {l : List UInt8} (x : Ses) (h : l ≠ []) : runS l.length x l = (lineS x (cutL l).1).2.data.toList ++ runS (cutL l).2.length (lineS x (cutL l).1).1 (cutL l).2 ∧ (cutL l).2.length < l.length := by
  cases l with
  | nil => exact absurd rfl h
  | cons c r =>
    have := cutL_len c r
    refine ⟨?_, by simp only [List.length_cons]; omega⟩
    rw [List.length_cons, runS, runS_fuel r.length (cutL (c :: r)).2.length _ _ this (Nat.le_refl _)]
/-- How much of the text is still to come. -/
def leftT (v : Value) : Nat := match v with
  | .string r => r.size
  | _ => 0
set_option maxRecDepth 100000 in
set_option maxHeartbeats 600000 in
theorem run_any (s : ByteArray) (w : World) (hG : RunG w) : Calls Tryz.prog 18 #[.string s] w (Ret w (.string (runF s))) := by
  unfold runF
  by_cases hs : 3000 < s.size
  · rw [if_pos hs]
    have k1 : decide ((s.size : Int) > 3000) = true := decide_eq_true (by omega)
    go_enter Tryz.func18, Tryz.ntmps18
    go_wp2
    go_ret
    exact ⟨rfl, Below.refl _ _⟩
  · rw [if_neg hs]
    have k1 : decide ((s.size : Int) > 3000) = false := decide_eq_false (by omega)
    have HD := Lib.hid (dnew_ok (W := 40) rfl w)
    have hS0 := SesAt.new (w0 := w) (w := w.alloc (.cells #[.int .i64 40, .slice none 0 0, .map none] 67)) (d := w.heap.size) (W := 40) rfl (heap_new rfl) ((Below.refl _ _).alloc (Nat.le_refl _) _) (Nat.le_refl _)
    have hz1 : (w.alloc (.cells #[.int .i64 40, .slice none 0 0, .map none] 67)).heap.size = w.heap.size + 1 := by simp
    rw [hz1] at hS0
    have hI0 : RnI w w.heap.size (w.heap.size + 1) (w.heap.size + 1 + 1) ⟨40, [], [], .empty⟩ .empty (((w.alloc (.cells #[.int .i64 40, .slice none 0 0, .map none] 67)).alloc (.cells #[.pointer none, .slice none 0 0, .pointer (some ⟨w.heap.size, 0, none⟩)] 97)).alloc (.cells #[.pointer none, .slice none 0 0] 88)) := by
      have hb := BldK.new ((w.alloc (.cells #[.int .i64 40, .slice none 0 0, .map none] 67)).alloc (.cells #[.pointer none, .slice none 0 0, .pointer (some ⟨w.heap.size, 0, none⟩)] 97))
      have hz2 : ((w.alloc (.cells #[.int .i64 40, .slice none 0 0, .map none] 67)).alloc (.cells #[.pointer none, .slice none 0 0, .pointer (some ⟨w.heap.size, 0, none⟩)] 97)).heap.size = w.heap.size + 1 + 1 := by simp
      rw [hz2] at hb
      refine ⟨hS0.more ((Below.refl _ _).alloc (Nat.le_refl _) _) (fun k hk => .inr ?_) hb.few, hb, by omega⟩
      rw [hz2]
      obtain ⟨p, v, h1, h2, h3⟩ := hb.row
      rcases hk with rfl | ⟨v', hv, hg⟩
      · exact Nat.le_refl _
      · rw [h2] at hv
        cases hv
        exact (h3 k hg).1
    have HI0 := Lib.hid hI0
    clear hS0 hz1 hI0
    go_enter Tryz.func18, Tryz.ntmps18
    go_wp2_with (go_at_call 8; refine HD.out.mono ?_; rintro e w1 ⟨rfl, rfl⟩)
    have HGW := Lib.hid hG
    clear hG HD
    go_loopw [0] (fun t wr => ∃ (x : Ses) (acc rest : ByteArray), t = .string rest ∧ Hid (runS s.data.toList.length ⟨40, [], [], .empty⟩ s.data.toList = acc.data.toList ++ runS rest.data.toList.length x rest.data.toList) ∧ x.s.size + rest.size ≤ 3000 ∧ acc.size ≤ 70000000 * (3000 - rest.size) ∧ Hid (RnI w w.heap.size (w.heap.size + 1) (w.heap.size + 1 + 1) x acc wr)) (fun t _ => leftT t)
    case atStart => exact ⟨_, _, s, rfl, Lib.hid (by simp), (by have : (ByteArray.empty).size = 0 := rfl; simp only [this]; omega), Nat.zero_le _, HI0⟩
    case round =>
      obtain ⟨x, acc, rest, rfl, HR, hxr, hacc, HI⟩ := hrel
      clear HI0
      by_cases hr0 : rest.data.toList = []
      · have q1 : (rest.toList == []) = true := b_eq hr0
        have q2 : (rest.toList != []) = false := by rw [bne, q1]; rfl
        have HS := Lib.hid (bldk_string _ _ _ wr HI.out.bld)
        have hfin : (⟨(runS s.size ⟨40, [], [], .empty⟩ s.data.toList).toArray⟩ : ByteArray) = acc := by
          have h := HR.out
          rw [hr0, runS_nil, List.append_nil] at h
          rw [show s.size = s.data.toList.length from rfl, h]
        have HF := Lib.hid hfin
        clear hfin
        go_wp2_with (go_at_call 37; refine HS.out.mono ?_; rintro e w5 ⟨rfl, hB5, -⟩)
        go_ret
        exact ⟨by rw [HF.out]; rfl, HI.out.ses.bel.trans (hB5.mono (by omega))⟩
      · have q1 : (rest.toList == []) = false := b_ne hr0
        have q2 : (rest.toList != []) = true := by rw [bne, q1]; rfl
        have hl : rest.data.toList.length = rest.size := rfl
        obtain ⟨hst, hlt⟩ := run_step x hr0
        have hcl := cutL_lens rest.data.toList
        have HCU := Lib.hid (fun (w' : World) (m : Int) (hm : w'.cell? ⟨1, 0, none⟩ = some (.int .i64 m)) => Tryz.strings_Cut rest ⟨#[10]⟩ m w' (by omega) hm)
        rw [(cut_nl rest.data.toList).1, (cut_nl rest.data.toList).2] at HCU
        obtain ⟨H, hH⟩ : ∃ H : ByteArray, (⟨(cutL rest.data.toList).1.toArray⟩ : ByteArray) = H := ⟨_, rfl⟩
        obtain ⟨R, hR⟩ : ∃ R : ByteArray, (⟨(cutL rest.data.toList).2.toArray⟩ : ByteArray) = R := ⟨_, rfl⟩
        rw [hH, hR] at HCU
        have hH1 : (cutL rest.data.toList).1 = H.data.toList := by rw [← hH]
        have hR1 : (cutL rest.data.toList).2 = R.data.toList := by rw [← hR]
        rw [hH1, hR1] at hst hcl
        rw [hR1] at hlt
        have hHs : H.data.toList.length = H.size := rfl
        have hRs : R.data.toList.length = R.size := rfl
        rw [hHs, hRs, hl] at hcl
        rw [hRs, hl] at hlt
        have hlo := lineS_out (x := x) (by omega) HI.out.ses.on H.data.toList
        have hls := lineS_s x H.data.toList
        rw [hHs] at hls
        have HST := Lib.hid hst
        have HLN := Lib.hid (fun (w' : World) (h : RnI w w.heap.size (w.heap.size + 1) (w.heap.size + 1 + 1) x acc w') => line_any h.ses HGW.out H (by omega) (by omega))
        clear hst hH hR hH1 hR1 hHs hRs hr0 hl
        generalize (lineS x H.data.toList).1 = y at *
        generalize (lineS x H.data.toList).2 = T at *
        obtain ⟨m, hm⟩ := ((HGW.out.past HI.out.ses.bel).max).2
        go_wp2_with (first
          | (go_at_call 39; refine (HCU.out _ m (by simpa using hm)).mono ?_; rintro e w2 ⟨rfl, n, rfl⟩; have HI2 := Lib.hid (HI.out.past (below_drewN (Below.refl _ _) n)))
          | (go_at_call 40; refine (HLN.out _ HI2.out).mono ?_; rintro e w3 ⟨rfl, hk⟩; have HI3 := Lib.hid (HI2.out.line hk); clear hk)
          | (go_at_call 35; refine (bw_write _ _ _ T _ HI3.out.bld (by omega)).mono ?_; rintro e w4 ⟨rfl, hb4, hB4, -, hf4⟩; have HI4 := Lib.hid (HI3.out.wrote hb4 hB4 hf4); clear hb4 hB4 hf4))
        go_roundw
        case rel => exact ⟨y, acc ++ T, R, rfl, Lib.hid (by rw [HR.out, HST.out, ByteArray.data_append, Array.toList_append, List.append_assoc]), by omega, by rw [ByteArray.size_append]; omega, HI4⟩
        case measure => simpa [leftT] using hlt
end Go.Proofs.YtddfdmopaeghnadGreatDoor

namespace Go.Proofs.YtddfdmopaeghnadGreatDoor

def smpI : ByteArray := ⟨#[43, 108, 101, 116, 32, 97, 61, 49, 59, 10, 115, 101, 116, 10, 116, 101, 120, 116, 10, 108, 111, 111, 107, 10, 102, 108, 121]⟩
def smpO : ByteArray := ⟨#[111, 107, 10, 49, 10, 124, 108, 101, 116, 32, 97, 32, 61, 32, 49, 59, 10, 111, 107, 10, 48, 10, 98, 97, 100, 10]⟩
def smpT : ByteArray := ⟨#[108, 101, 116, 32, 97, 61, 49, 59, 10]⟩
def smpL : ByteArray := ⟨#[108, 101, 116, 32, 97, 32, 61, 32, 49, 59, 10]⟩
def smpP : List Nd := [⟨7, ⟨#[97]⟩, 0⟩, ⟨1, .empty, 1⟩]
theorem smp_parse : parseF smpT = (0, 0, [smpP]) := by kernel_rfl
theorem smp_one : oneQ smpP 40 = 0 ∧ oneX smpP 40 = smpL := ⟨by kernel_rfl, by kernel_rfl⟩
theorem smp_err : formE 40 [smpP] = 0 := by
  rw [formE, if_neg (by rw [smp_one.1]; simp)]; rfl
theorem smp_text : formT 40 [smpP] = smpL := by
  rw [formT, smp_one.2, formT]; simp
theorem smp_new : newN [] [] [smpP] = 1 := by
  rw [newN, if_neg (by simp), if_neg (by simp), newN]
theorem itoa0 : itoaB 0 = ⟨#[48]⟩ := by simp [itoaB, Lib.itoa, Lib.decDigits]
theorem itoa1 : itoaB 1 = ⟨#[49]⟩ := by simp [itoaB, Lib.itoa, Lib.decDigits]
theorem smp_app (a b c : List UInt8) (h : a ++ b = c) : (⟨a.toArray⟩ ++ ⟨b.toArray⟩ : ByteArray) = ⟨c.toArray⟩ := by
  apply ByteArray.ext
  rw [ByteArray.data_append, ← h]
  simp
theorem smp_told (n : Int) (c : UInt8) (h : itoaB n = ⟨#[c]⟩) : toldF (itoaB n) 0 0 = ⟨#[c, 10]⟩ := by
  rw [toldF, if_pos rfl, h]
  exact smp_app [c] [10] [c, 10] rfl
theorem smp_l1 : lineS ⟨40, [], [], .empty⟩ [43, 108, 101, 116, 32, 97, 61, 49, 59] = (⟨40, [], [], smpT⟩, okT) := by
  have h : (.empty ++ ⟨(([108, 101, 116, 32, 97, 61, 49, 59] : List UInt8) ++ [10]).toArray⟩ : ByteArray) = smpT := smp_app [] [108, 101, 116, 32, 97, 61, 49, 59, 10] [108, 101, 116, 32, 97, 61, 49, 59, 10] rfl
  have h2 : behindL [43] [43, 108, 101, 116, 32, 97, 61, 49, 59] = some [108, 101, 116, 32, 97, 61, 49, 59] := rfl
  rw [lineS, h2]
  simp only [h]
theorem smp_l2 : lineS ⟨40, [], [], smpT⟩ [115, 101, 116] = (⟨40, [smpP], seenL [] [smpP], smpT⟩, ⟨#[49, 10]⟩) := by
  have h2 : behindL [43] [115, 101, 116] = none := rfl
  have h3 : behindL [119, 105, 100, 101, 32] [115, 101, 116] = none := rfl
  rw [lineS, h2, h3]
  simp only [if_true]
  rw [setS]
  simp only [smp_parse, smp_err, if_true, smp_new]
  rw [show ((1 : Nat) : Int) = 1 from rfl, smp_told 1 49 itoa1]
theorem smp_l3 : lineS ⟨40, [smpP], seenL [] [smpP], smpT⟩ [116, 101, 120, 116] = (⟨40, [smpP], seenL [] [smpP], smpT⟩, ⟨#[124, 108, 101, 116, 32, 97, 32, 61, 32, 49, 59, 10, 111, 107, 10]⟩) := by
  have h2 : behindL [43] [116, 101, 120, 116] = none := rfl
  have h3 : behindL [119, 105, 100, 101, 32] [116, 101, 120, 116] = none := rfl
  rw [lineS, h2, h3]
  simp only [if_true, smp_text]
  rw [if_neg (by decide)]
  have h4 : barsF true smpL.data.toList = [124, 108, 101, 116, 32, 97, 32, 61, 32, 49, 59, 10] := rfl
  rw [h4]
  exact congrArg _ (smp_app _ [111, 107, 10] _ rfl)
theorem smp_l4 : lineS ⟨40, [smpP], seenL [] [smpP], smpT⟩ [108, 111, 111, 107] = (⟨40, [smpP], seenL [] [smpP], smpT⟩, ⟨#[48, 10]⟩) := by
  have h2 : behindL [43] [108, 111, 111, 107] = none := rfl
  have h3 : behindL [119, 105, 100, 101, 32] [108, 111, 111, 107] = none := rfl
  rw [lineS, h2, h3]
  simp only [if_true]
  rw [if_neg (by decide), if_neg (by decide)]
  have hf : fmtF smpT 40 = (0, 0, smpL) := by
    rw [fmtF, if_neg (by decide), if_neg (by rw [smp_parse]; simp), if_neg (by rw [smp_parse]; simp only [smp_err]; simp), smp_parse]
    simp only [smp_text]
  have hd : difL 0 smpT.data.toList smpL.data.toList = 0 := rfl
  rw [lookS]
  simp only [hf, hd, if_true]
  rw [smp_told 0 48 itoa0]
theorem smp_l5 : lineS ⟨40, [smpP], seenL [] [smpP], smpT⟩ [102, 108, 121] = (⟨40, [smpP], seenL [] [smpP], smpT⟩, badT) := by
  have h2 : behindL [43] [102, 108, 121] = none := rfl
  have h3 : behindL [119, 105, 100, 101, 32] [102, 108, 121] = none := rfl
  rw [lineS, h2, h3]
  simp only
  rw [if_neg (by decide), if_neg (by decide), if_neg (by decide), if_neg (by decide)]
theorem runS_cons {n : Nat} {x y : Ses} {c : UInt8} {r h t : List UInt8} {o : ByteArray} (hc : cutL (c :: r) = (h, t)) (hl : lineS x h = (y, o)) : runS (n + 1) x (c :: r) = o.data.toList ++ runS n y t := by
  rw [runS, hc]
  simp only [hl]
theorem smp_run : runF smpI = smpO := by
  have e1 : runS 27 ⟨40, [], [], .empty⟩ [43, 108, 101, 116, 32, 97, 61, 49, 59, 10, 115, 101, 116, 10, 116, 101, 120, 116, 10, 108, 111, 111, 107, 10, 102, 108, 121] = (okT : ByteArray).data.toList ++ runS 26 ⟨40, [], [], smpT⟩ [115, 101, 116, 10, 116, 101, 120, 116, 10, 108, 111, 111, 107, 10, 102, 108, 121] := runS_cons (h := [43, 108, 101, 116, 32, 97, 61, 49, 59]) rfl smp_l1
  have e2 : runS 26 ⟨40, [], [], smpT⟩ [115, 101, 116, 10, 116, 101, 120, 116, 10, 108, 111, 111, 107, 10, 102, 108, 121] = (⟨#[49, 10]⟩ : ByteArray).data.toList ++ runS 25 ⟨40, [smpP], seenL [] [smpP], smpT⟩ [116, 101, 120, 116, 10, 108, 111, 111, 107, 10, 102, 108, 121] := runS_cons (h := [115, 101, 116]) rfl smp_l2
  have e3 : runS 25 ⟨40, [smpP], seenL [] [smpP], smpT⟩ [116, 101, 120, 116, 10, 108, 111, 111, 107, 10, 102, 108, 121] = (⟨#[124, 108, 101, 116, 32, 97, 32, 61, 32, 49, 59, 10, 111, 107, 10]⟩ : ByteArray).data.toList ++ runS 24 ⟨40, [smpP], seenL [] [smpP], smpT⟩ [108, 111, 111, 107, 10, 102, 108, 121] := runS_cons (h := [116, 101, 120, 116]) rfl smp_l3
  have e4 : runS 24 ⟨40, [smpP], seenL [] [smpP], smpT⟩ [108, 111, 111, 107, 10, 102, 108, 121] = (⟨#[48, 10]⟩ : ByteArray).data.toList ++ runS 23 ⟨40, [smpP], seenL [] [smpP], smpT⟩ [102, 108, 121] := runS_cons (h := [108, 111, 111, 107]) rfl smp_l4
  have e5 : runS 23 ⟨40, [smpP], seenL [] [smpP], smpT⟩ [102, 108, 121] = (badT : ByteArray).data.toList ++ runS 22 ⟨40, [smpP], seenL [] [smpP], smpT⟩ [] := runS_cons (h := [102, 108, 121]) rfl smp_l5
  have h : runS 27 ⟨40, [], [], .empty⟩ smpI.data.toList = smpO.data.toList := by
    refine e1.trans ?_
    rw [e2, e3, e4, e5, runS_nil]
    rfl
  rw [runF, if_neg (by decide), show smpI.size = 27 from rfl, h]
theorem ext_take (s : ByteArray) (k : Nat) : (s.extract 0 k).data.toList = s.data.toList.take k := by
  rw [← ln_take]
/-- THE FIRST LINES' ANSWERS ARE THE BEGINNING OF ALL. -/
theorem runF_begins {s : ByteArray} (hs : s.size ≤ 3000) {k : Nat} (hk : k ≤ s.size) (hn : NlEnd (s.data.toList.take k)) : ∃ t : ByteArray, runF s = runF (s.extract 0 k) ++ t := by
  have hl : s.data.toList.length = s.size := rfl
  have hz : (s.extract 0 k).size = k := by rw [ByteArray.size_extract]; omega
  obtain ⟨t, ht⟩ := runS_begins k s.size ⟨40, [], [], .empty⟩ (s.data.toList.take k) (s.data.toList.drop k) hn (List.length_take_le _ _) (by rw [List.take_append_drop, hl]; exact Nat.le_refl _)
  rw [List.take_append_drop] at ht
  refine ⟨⟨t.toArray⟩, ?_⟩
  rw [runF, if_neg (by omega), runF, hz, if_neg (by omega), ext_take, ht]
  exact (smp_app _ _ _ rfl).symm
theorem ext_allR (s : ByteArray) : s.extract 0 s.size = s := by
  apply ByteArray.ext
  rw [← Array.toList_inj, ext_take]
  exact List.take_of_length_le (Nat.le_refl _)
theorem app_head (a b : ByteArray) : (a ++ b).extract 0 a.size = a := by
  apply ByteArray.ext
  rw [← Array.toList_inj, ext_take, ByteArray.data_append, Array.toList_append]
  exact List.take_left
theorem NlEnd.zero (l : List UInt8) : NlEnd (l.take 0) := .inl rfl
theorem NlEnd.at {s : ByteArray} {k : Nat} (hk : k < s.size) (h : s[k] = 10) : NlEnd (s.data.toList.take (k + 1)) := by
  refine .inr ⟨s.data.toList.take k, ?_⟩
  rw [List.take_succ_eq_append_getElem (by simpa using hk), ← h]
  rfl
end Go.Proofs.YtddfdmopaeghnadGreatDoor

namespace Go.Proofs.YtddfdmopaeghnadGreatDoor
open Go.RowKit

set_option maxRecDepth 100000 in
set_option maxHeartbeats 1000000 in
theorem runBegins_any (s : ByteArray) (n : Int) (hn : n ≤ 9223372036854775807) (w : World) (hG : RunG w) :
    Calls Tryz.prog 5 #[.string s, .int .i64 n] w (Ret w (.bool true)) := by
  have HF := run_any smpI w hG
  rw [smp_run] at HF
  unfold smpI smpO at HF
  have HF := Lib.hid HF
  have HGW := Lib.hid hG
  have HR := Lib.hid (fun (t : ByteArray) (w' : World) (hg : RunG w') => run_any t w' hg)
  clear hG
  by_cases hs : 3000 < s.size
  · have k1 : decide ((s.size : Int) > 3000) = true := decide_eq_true (by omega)
    go_enter Tryz.func5, Tryz.ntmps5
    go_wp2_with (go_at_call 18; refine HF.out.mono ?_; rintro e w1 ⟨rfl, hB1⟩)
    go_ret
    exact ⟨rfl, hB1⟩
  have k1 : decide ((s.size : Int) > 3000) = false := decide_eq_false (by omega)
  by_cases hn0 : n < 0
  · have k2 : decide (n < 0) = true := decide_eq_true hn0
    go_enter Tryz.func5, Tryz.ntmps5
    go_wp2_with (go_at_call 18; refine HF.out.mono ?_; rintro e w1 ⟨rfl, hB1⟩)
    go_ret
    exact ⟨rfl, hB1⟩
  have k2 : decide (n < 0) = false := decide_eq_false hn0
  obtain ⟨N, rfl⟩ : ∃ N : Nat, n = N := ⟨n.toNat, by omega⟩
  have HNL := Lib.hid (NlEnd.zero s.data.toList)
  go_enter Tryz.func5, Tryz.ntmps5
  go_wp2_with (go_at_call 18; refine HF.out.mono ?_; rintro e w1 ⟨rfl, hB1⟩)
  go_loop [1, 6] (fun t1 t6 => ∃ m k : Nat, t1 = .int .i64 m ∧ t6 = .int .i64 k ∧ k ≤ s.size ∧ m ≤ N ∧ (m = 0 → Hid (NlEnd (s.data.toList.take k)))) (fun _ t6 => s.size - (intOf t6).toNat)
  case atStart => exact ⟨N, 0, rfl, rfl, Nat.zero_le _, Nat.le_refl _, fun _ => HNL⟩
  case round =>
    obtain ⟨m, k, rfl, rfl, hk, hm, hE⟩ := hrel
    have HRS := Lib.hid (fun (w' : World) (hB : Below w.heap.size w w') => run_any s w' (HGW.out.past hB))
    have HRK := Lib.hid (fun (w' : World) (hB : Below w.heap.size w w') => run_any (s.extract 0 k) w' (HGW.out.past hB))
    clear HR HF HNL
    by_cases hm0 : m = 0
    · obtain ⟨t, ht⟩ := runF_begins (s := s) (by omega) hk (hE hm0).out
      subst hm0
      have q1 : decide (((0 : Nat) : Int) > 0) = false := by decide
      have hge : (runF (s.extract 0 k)).size ≤ (runF s).size := by rw [ht, ByteArray.size_append]; omega
      have hhd : (runF s).extract 0 (runF (s.extract 0 k)).size = runF (s.extract 0 k) := by rw [ht]; exact app_head _ _
      clear ht hE
      generalize runF s = T at *
      generalize runF (s.extract 0 k) = U at *
      have q2 : decide ((U.size : Int) ≤ (T.size : Int)) = true := decide_eq_true (by omega)
      have q3 : ((T.extract 0 U.size).toList == U.toList) = true := by rw [hhd]; simp
      clear hhd
      go_wp2_with (first
        | (go_at_call 18; (fail_if_success have z := T1); refine (HRS.out _ hB1).mono ?_; rintro e w2 ⟨rfl, hB2⟩; have hB3 := hB1.trans (hB2.mono hB1.size); have T1 := Lib.hid True.intro)
        | (go_at_call 18; (have z := T1; clear z); refine (HRK.out _ hB3).mono ?_; rintro e w4 ⟨rfl, hB4⟩; have hB5 := hB3.trans (hB4.mono hB3.size)))
      go_ret
      exact ⟨rfl, hB5⟩
    · clear hE
      have q1 : decide ((m : Int) > 0) = true := decide_eq_true (by omega)
      by_cases hks : k = s.size
      · subst hks
        have q2 : decide ((s.size : Int) < (s.size : Int)) = false := decide_eq_false (by omega)
        rw [ext_allR] at HRK
        generalize runF s = T at *
        have q3 : (T.toList == T.toList) = true := by simp
        go_wp2_with (first
          | (go_at_call 18; (fail_if_success have z := T1); refine (HRS.out _ hB1).mono ?_; rintro e w2 ⟨rfl, hB2⟩; have hB3 := hB1.trans (hB2.mono hB1.size); have T1 := Lib.hid True.intro)
          | (go_at_call 18; (have z := T1; clear z); refine (HRK.out _ hB3).mono ?_; rintro e w4 ⟨rfl, hB4⟩; have hB5 := hB3.trans (hB4.mono hB3.size)))
        go_ret
        exact ⟨rfl, hB5⟩
      · have hlt : k < s.size := by omega
        have q2 : decide ((k : Int) < (s.size : Int)) = true := decide_eq_true (by omega)
        clear HRS HRK
        by_cases hc : s[k] = 10
        · have q6 : ((s[k].toNat : Int) == 10) = true := by rw [hc]; rfl
          have HNE := Lib.hid (NlEnd.at hlt hc)
          clear hc
          go_wp2
          have hm1 : ((m - 1 : Nat) : Int) = (m : Int) - 1 := by omega
          exact ⟨⟨m - 1, k + 1, by rw [hm1], by go_num, by omega, by omega, fun _ => HNE⟩, by simp [intOf]; omega⟩
        · have q5 : s[k].toNat ≠ 10 := fun e => hc (UInt8.toNat_inj.1 (by rw [e]; rfl))
          have q6 : ((s[k].toNat : Int) == 10) = false := beq_eq_false_iff_ne.2 (by omega)
          clear hc
          go_wp2
          exact ⟨⟨m, k + 1, rfl, by go_num, by omega, hm, fun e => absurd e hm0⟩, by simp [intOf]; omega⟩
end Go.Proofs.YtddfdmopaeghnadGreatDoor
