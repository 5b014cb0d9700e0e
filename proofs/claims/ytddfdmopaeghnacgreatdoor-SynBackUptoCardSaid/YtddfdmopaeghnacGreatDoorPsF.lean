/- Walk: syn.Parse. Conditions: the text is not longer than a slice may be; internal/bytealg.MaxLen holds some number. -/
import Derived.Test.YtddfdmopaeghnacGreatDoorPsG
import Derived.Test.YtddfdmopaeghnacGreatDoorPsI
namespace Go.Proofs.YtddfdmopaeghnacGreatDoor
open Go.RowKit

/-- A program in memory, in blocks from one on. -/
structure PrgF (lo : Nat) (w : World) (A : Option Addr) (l : List (List Nd)) : Prop where
  sl : ∃ vs : List Value, Sl w w.heap.size 1 A l.length vs ∧ ∀ (j : Nat) v, vs[j]? = some v → ∃ Aj cj u, l[j]? = some u ∧ v = .slice Aj u.length cj ∧ NdF lo w Aj u ∧ Short u
  le : l.length ≤ maxLen
  far : ∀ ad, A = some ad → lo ≤ ad.block
theorem PrgF.prg {lo : Nat} {w : World} {A : Option Addr} {l : List (List Nd)} (h : PrgF lo w A l) : Prg w w.heap.size A l := by
  obtain ⟨⟨vs, h1, h2⟩, h3, _⟩ := h
  exact ⟨⟨vs, h1, fun j v hv => let ⟨Aj, cj, u, g1, g2, g3, g4⟩ := h2 j v hv; ⟨Aj, cj, u, g1, g2, g3.1, g4⟩⟩, h3⟩
theorem PrgF.grow {lo : Nat} {w w' : World} {A : Option Addr} {l : List (List Nd)} {row : Option Nat} (h : PrgF lo w A l) (hg : w.grownBy w' row) (hr : ∀ k, row = some k → k < lo) : PrgF lo w' A l := by
  obtain ⟨⟨vs, ⟨a1, a2⟩, h2⟩, h3, h4⟩ := h
  refine ⟨⟨vs, ⟨a1, fun hn => ?_⟩, fun j v hv => let ⟨Aj, cj, u, g1, g2, g3, g4⟩ := h2 j v hv; ⟨Aj, cj, u, g1, g2, g3.grow hg hr, g4⟩⟩, h3, h4⟩
  obtain ⟨b, off, rfl, hb, hc⟩ := a2 hn
  refine ⟨b, off, rfl, Nat.lt_of_lt_of_le hb hg.size, fun j u hu => ?_⟩
  have hlo := h4 _ rfl
  exact (World.cell?_of_block (w := w) (a := ⟨b, off + j, none⟩) (hg.block b hb (fun e => by have h7 := hr b e.symm; simp only at hlo; omega))).trans (hc j u hu)
theorem PrgF.past {lo : Nat} {w w' : World} {A : Option Addr} {l : List (List Nd)} (h : PrgF lo w A l) (hb : Below w.heap.size w w') : PrgF lo w' A l := h.grow (grown_of_below hb) (fun _ e => by cases e)
theorem PrgF.less {lo lo' : Nat} {w : World} {A : Option Addr} {l : List (List Nd)} (h : PrgF lo w A l) (hl : lo' ≤ lo) : PrgF lo' w A l :=
  ⟨let ⟨vs, h1, h2⟩ := h.sl; ⟨vs, h1, fun j v hv => let ⟨Aj, cj, u, g1, g2, g3, g4⟩ := h2 j v hv; ⟨Aj, cj, u, g1, g2, g3.less hl, g4⟩⟩, h.le, fun ad e => Nat.le_trans hl (h.far ad e)⟩
theorem PrgF.nil_ (lo : Nat) (w : World) : PrgF lo w none [] := ⟨⟨[], Sl.nil_, fun j v hv => by simp at hv⟩, Nat.zero_le _, fun _ e => by cases e⟩
theorem PrgF.of_row {lo c : Nat} {w : World} {A : Option Addr} {vs : List Value} {l : List (List Nd)} (ho : w.ownsRow lo 22 1 (.slice A l.length c) l.length vs) (he : RowP w lo (Value.slice A l.length c).ownBlock vs l) (hl : l.length ≤ 60000) : PrgF lo w A l :=
  ⟨⟨vs, .of_own ho, fun j v hv => let ⟨Aj, cj, u, h1, h2, h3, _, h5, _⟩ := he.els j v hv; ⟨Aj, cj, u, h1, h2, h3, h5⟩⟩, by simp only [maxLen]; omega, fun ad e => by subst e; exact (ho.lt ad.block rfl).1⟩

/-- What syn.Parse hands back: the program, the place, the fault. -/
def ParseTo (s : ByteArray) (w : World) (e : Ending) (w' : World) : Prop :=
  ∃ A c, e = .returned (.tuple #[.slice A (parseF s).2.2.length c, .int .i64 ((parseF s).2.1 : Nat), errV (parseF s).1]) ∧ PrgF w.heap.size w' A (parseF s).2.2 ∧ Below w.heap.size w w'
theorem ParseTo.none_ {s : ByteArray} {w w' : World} {k : Int} {x : Nat} {v : Value} (h : parseF s = (k, x, [])) (hv : v = errV k) (hb : Below w.heap.size w w') : ParseTo s w (.returned (.tuple #[.slice none 0 0, .int .i64 (x : Nat), v])) w' := by
  unfold ParseTo; rw [h, hv]; exact ⟨none, 0, rfl, PrgF.nil_ _ _, hb⟩
theorem ParseTo.some_ {s : ByteArray} {w w' : World} {A : Option Addr} {c : Nat} {l : List (List Nd)} (h : parseF s = (0, 0, l)) (hp : PrgF w.heap.size w' A l) (hb : Below w.heap.size w w') : ParseTo s w (.returned (.tuple #[.slice A l.length c, .int .i64 0, .nilIface])) w' := by
  unfold ParseTo; rw [h]; exact ⟨A, c, rfl, hp, hb⟩
theorem wordsB_size (s : ByteArray) : (wordsB s).length = (lexWs s).length := by simp [wordsB, wordBs]
theorem own_apart {w w' : World} {e f : TypeId} {u v : Value} {m n : Nat} {xs ys : List Value} {B C : Nat} {sz sz' : Nat} (h1 : w.ownsRow B e sz u m xs) (h2 : w.ownsRow C f sz' v n ys) (hef : e ≠ f) (hg : w.grownBy w' v.ownBlock) : w'.ownsRow B e sz u m xs := h1.kept hg (rows_apart h1 h2 hef)
/-- The parser as it is made. -/
theorem PsSt.made {s : ByteArray} {w1 w9 : World} {g B cw c9 : Nat} {A P : Option Addr} (hE : (lexE s).1 = 0) (ho : w9.ownsRow B 9 1 (.slice A (lexWs s).length cw) (lexWs s).length ((wordBs (lexWs s)).map .string))
    (hp : w9.ownsRow B 3 1 (.slice P ((lexWs s).length + 1) c9) ((lexWs s).length + 1) (placeV (lexWs s) ++ [.int .i64 (s.size : Nat)])) (hg : w9.heap.size = g)
    (h1 : w1 = w9.alloc (.cells #[.slice A (lexWs s).length cw, .slice P ((lexWs s).length + 1) c9, .int .i64 0] 132)) : PsSt g A cw (wordsB s) P c9 (placesN s) 0 w1 := by
  subst h1 hg
  have hsz := (lexE_parts hE).1
  have hct := lexWs_count hE
  have hl : (wordsB s).length = (lexWs s).length := wordsB_size s
  have hl2 : (placesN s).length = (lexWs s).length + 1 := by rw [placesN_len, hl]
  have hb : Below w9.heap.size w9 (w9.alloc (.cells #[.slice A (lexWs s).length cw, .slice P ((lexWs s).length + 1) c9, .int .i64 0] 132)) := (Below.refl _ _).alloc (Nat.le_refl _) _
  have t1 : Txs w9 w9.heap.size A (wordBs (lexWs s)) := txs_of ho rfl hct (fun p hp => (lexWs_len hsz p hp).1)
  refine ⟨?_, ⟨t1.1.below hb (Nat.le_refl _), t1.2⟩, ?_, by rw [hl2, hl], by omega⟩
  · rw [hl, hl2]; exact heap_new rfl
  · rw [hl2]
    have hv : (placesN s).map (fun p => Value.int .i64 (p : Nat)) = placeV (lexWs s) ++ [.int .i64 (s.size : Nat)] := by simp [placesN, placeV]
    rw [hv]
    exact (Sl.of_own hp).below hb (Nat.le_refl _)

set_option maxRecDepth 100000 in
set_option maxHeartbeats 4000000 in
theorem parse_any (s : ByteArray) (w : World) (hs : s.size ≤ maxLen) (hm : MaxL w) : Calls Tryz.prog 27 #[.string s] w (ParseTo s w) := by
  have hs' := hs
  unfold maxLen at hs'
  have HL := Lib.hid (lex_own s w hs)
  have HML := Lib.hid hm
  clear hm hs
  by_cases hE : (lexE s).1 = 0
  · have HLK : Hid (Calls Tryz.prog 29 #[.string s] w (LexOwn s w)) := Lib.hid (HL.out.mono fun e w' h => h.elim (fun h => absurd hE h.1) (fun h => h.2))
    have hct := lexWs_count hE
    have hsz := (lexE_parts hE).1
    obtain ⟨i0, hi0, hz0, hz1, hz2⟩ := info_parts int_info
    have HE := Lib.hid hE
    have NE : Hid ((9 : TypeId) ≠ 3) := Lib.hid (by decide)
    have HMADE := Lib.hid (fun (w1 w9 : World) (g B cw c9 : Nat) (A P : Option Addr) => PsSt.made (s := s) (w1 := w1) (w9 := w9) (g := g) (B := B) (cw := cw) (c9 := c9) (A := A) (P := P) hE)
    have HPR := Lib.hid (fun (g cw cp : Nat) (W P : Option Addr) (w' : World) (h : PsSt g W cw (wordsB s) P cp (placesN s) 0 w') => program_any (wordsB_dgW s) (wordsB_wdB hsz) w' h)
    unfold LexOwn at HLK
    clear hE HL
    generalize hn : (lexWs s).length = n at *
    cases hR : progP (wordsB s) (wordsB s).length [] 0 with
    | error x =>
      rw [hR] at HPR
      have HQ : Hid (∀ (g cw cp : Nat) (W P : Option Addr) (w' : World), PsSt g W cw (wordsB s) P cp (placesN s) 0 w' → Calls Tryz.prog 69 #[.pointer (some ⟨g, 0, none⟩)] w' fun e w'' => e = .returned (.tuple #[.slice none 0 0, .int .i64 ((placesN s).getD x 0 : Nat), .iface 43 (.int .i64 5)]) ∧ w'.grownBy w'' (some g)) := Lib.hid (fun g cw cp W P w' h => HPR.out g cw cp W P w' h)
      have HRES := Lib.hid (parseF_bad HE.out hR)
      generalize (placesN s).getD x 0 = y at *
      clear hR HPR
      go_enter Tryz.func27, Tryz.ntmps27
      go_wp2_with (first
        | (go_at_call 29; refine HLK.out.mono ?_; rintro e w2 ⟨A, c, A2, c2, rfl, -, hp2, hB2, hw2⟩; have HB := Lib.hid hB2; have HP := Lib.hid hp2; have HW := Lib.hid hw2; have hsz2 := hB2.size; clear hB2 hp2 hw2)
        | (at_builtin; refine wpList_app _ rfl (.tmp 22) (.tmp 25) _ rfl w.heap.size 3 i0 (.int .i64 0) 1 8 Tryz.underlying23 hi0 hz0 hz1 hz2 rfl (by decide) _ n _ rfl (own_below HP.out ((Below.refl _ _).alloc (Nat.le_refl _) _)) _ _ 1 1 [.int .i64 (s.size : Nat)] rfl (Sl.lit (sz := 1) _ #[.int .i64 (s.size : Nat)] 3 1 rfl) (by simp [Value.oneCell']) (by simp only [maxLen]; omega) (by omega) (by simp; omega) ?_; intro v4 w4 hown4 hg4 hat4; clear hat4; obtain ⟨A4, c4, hv4⟩ := own_slice hown4; subst hv4; have HO4 := Lib.hid hown4; have HB4 := Lib.hid (below_app (HB.out.alloc (by omega) _) (own_below HP.out ((Below.refl _ _).alloc (Nat.le_refl _) _)) hg4 (by simp; omega) (Nat.le_refl _)); have hsz4 := HB4.out.size; have hba : Below w2.heap.size w2 (w2.alloc (.cells #[.int .i64 (s.size : Nat)] 3)) := (Below.refl _ _).alloc (Nat.le_refl _) _; have HW4 := Lib.hid (own_apart (own_below HW.out hba) (own_below HP.out hba) NE.out hg4); clear hown4 hg4)
        | (go_at_call 69; refine (HQ.out _ _ _ _ _ _ (HMADE.out _ _ _ _ _ _ _ _ HW4.out HO4.out rfl rfl)).mono ?_; rintro e w5 ⟨rfl, hg5⟩; have HB5 := Lib.hid (Below.grown (HB4.out.alloc (by omega) _) hg5 (by simp; omega) (fun k e => by cases e; omega)); clear hg5))
      refine bodyPost_ret (v := .tuple #[.slice none 0 0, .int .i64 (y : Nat), .iface 43 (.int .i64 5)]) (by simp [results, Tryz.results27, go_sem]) rfl ?_
      exact ParseTo.none_ HRES.out rfl HB5.out
    | ok l =>
      rw [hR] at HPR
      have HQ : Hid (∀ (g cw cp : Nat) (W P : Option Addr) (w' : World), PsSt g W cw (wordsB s) P cp (placesN s) 0 w' → Calls Tryz.prog 69 #[.pointer (some ⟨g, 0, none⟩)] w' fun e w'' => ∃ (A : Option Addr) (c : Nat) (vs : List Value), e = .returned (.tuple #[.slice A l.length c, .int .i64 0, .nilIface]) ∧ w''.ownsRow w'.heap.size 22 1 (.slice A l.length c) l.length vs ∧ RowP w'' w'.heap.size (Value.slice A l.length c).ownBlock vs l ∧ l.length ≤ 60000 ∧ w'.grownBy w'' (some g)) := Lib.hid (fun g cw cp W P w' h => HPR.out g cw cp W P w' h)
      have HALL := Lib.hid (fun A c w' (h : PrgF w.heap.size w' A l) hm => all_any l A c w' h.prg hm)
      by_cases hq : (progF l).2 = 0
      · have HRES := Lib.hid (parseF_ok HE.out hR hq)
        have HA2 : Hid (∀ A c w', PrgF w.heap.size w' A l → MaxL w' → Calls Tryz.prog 46 #[.slice A l.length c] w' fun e w'' => e = .returned (.tuple #[.int .i64 (progF l).1, .nilIface]) ∧ Below w'.heap.size w' w'') := Lib.hid (fun A c w' h hm => by have := HALL.out A c w' h hm; unfold AllTo at this; rwa [hq] at this)
        clear hR HPR hq HALL
        generalize (progF l).1 = z at *
        go_enter Tryz.func27, Tryz.ntmps27
        go_wp2_with (first
          | (go_at_call 29; refine HLK.out.mono ?_; rintro e w2 ⟨A, c, A2, c2, rfl, -, hp2, hB2, hw2⟩; have HB := Lib.hid hB2; have HP := Lib.hid hp2; have HW := Lib.hid hw2; have hsz2 := hB2.size; clear hB2 hp2 hw2)
          | (at_builtin; refine wpList_app _ rfl (.tmp 22) (.tmp 25) _ rfl w.heap.size 3 i0 (.int .i64 0) 1 8 Tryz.underlying23 hi0 hz0 hz1 hz2 rfl (by decide) _ n _ rfl (own_below HP.out ((Below.refl _ _).alloc (Nat.le_refl _) _)) _ _ 1 1 [.int .i64 (s.size : Nat)] rfl (Sl.lit (sz := 1) _ #[.int .i64 (s.size : Nat)] 3 1 rfl) (by simp [Value.oneCell']) (by simp only [maxLen]; omega) (by omega) (by simp; omega) ?_; intro v4 w4 hown4 hg4 hat4; clear hat4; obtain ⟨A4, c4, hv4⟩ := own_slice hown4; subst hv4; have HO4 := Lib.hid hown4; have HB4 := Lib.hid (below_app (HB.out.alloc (by omega) _) (own_below HP.out ((Below.refl _ _).alloc (Nat.le_refl _) _)) hg4 (by simp; omega) (Nat.le_refl _)); have hsz4 := HB4.out.size; have hba : Below w2.heap.size w2 (w2.alloc (.cells #[.int .i64 (s.size : Nat)] 3)) := (Below.refl _ _).alloc (Nat.le_refl _) _; have HW4 := Lib.hid (own_apart (own_below HW.out hba) (own_below HP.out hba) NE.out hg4); clear hown4 hg4)
          | (go_at_call 69; refine (HQ.out _ _ _ _ _ _ (HMADE.out _ _ _ _ _ _ _ _ HW4.out HO4.out rfl rfl)).mono ?_; rintro e w5 ⟨A5, c5, vs5, rfl, ho5, he5, hl5, hg5⟩; have HF5 := Lib.hid ((PrgF.of_row ho5 he5 hl5).less (show w.heap.size ≤ _ by simp; omega)); have HB5 := Lib.hid (Below.grown (HB4.out.alloc (by omega) _) hg5 (by simp; omega) (fun k e => by cases e; omega)); have hsz5 := HB5.out.size; clear hg5 ho5 he5)
          | (go_at_call 46; refine (HA2.out _ _ _ HF5.out (HML.out.past HB5.out)).mono ?_; rintro e w6 ⟨rfl, hB6⟩; have HF6 := Lib.hid (HF5.out.past hB6); have HB6 := Lib.hid (HB5.out.trans (hB6.mono hsz5)); clear hB6))
        refine bodyPost_ret (v := .tuple #[.slice A5 l.length c5, .int .i64 0, .nilIface]) (by simp [results, Tryz.results27, go_sem]) rfl ?_
        exact ParseTo.some_ HRES.out HF6.out HB6.out
      · have HRES := Lib.hid (parseF_tree HE.out hR hq)
        have HA2 : Hid (∀ A c w', PrgF w.heap.size w' A l → MaxL w' → Calls Tryz.prog 46 #[.slice A l.length c] w' fun e w'' => e = .returned (.tuple #[.int .i64 (progF l).1, .iface 43 (.int .i64 (progF l).2)]) ∧ Below w'.heap.size w' w'') := Lib.hid (fun A c w' h hm => by have := HALL.out A c w' h hm; unfold AllTo at this; rwa [← errV_pos hq] at this)
        have HEV := Lib.hid (errV_pos hq)
        clear hR HPR hq HALL
        generalize (progF l).1 = z at *
        generalize (progF l).2 = f at *
        go_enter Tryz.func27, Tryz.ntmps27
        go_wp2_with (first
          | (go_at_call 29; refine HLK.out.mono ?_; rintro e w2 ⟨A, c, A2, c2, rfl, -, hp2, hB2, hw2⟩; have HB := Lib.hid hB2; have HP := Lib.hid hp2; have HW := Lib.hid hw2; have hsz2 := hB2.size; clear hB2 hp2 hw2)
          | (at_builtin; refine wpList_app _ rfl (.tmp 22) (.tmp 25) _ rfl w.heap.size 3 i0 (.int .i64 0) 1 8 Tryz.underlying23 hi0 hz0 hz1 hz2 rfl (by decide) _ n _ rfl (own_below HP.out ((Below.refl _ _).alloc (Nat.le_refl _) _)) _ _ 1 1 [.int .i64 (s.size : Nat)] rfl (Sl.lit (sz := 1) _ #[.int .i64 (s.size : Nat)] 3 1 rfl) (by simp [Value.oneCell']) (by simp only [maxLen]; omega) (by omega) (by simp; omega) ?_; intro v4 w4 hown4 hg4 hat4; clear hat4; obtain ⟨A4, c4, hv4⟩ := own_slice hown4; subst hv4; have HO4 := Lib.hid hown4; have HB4 := Lib.hid (below_app (HB.out.alloc (by omega) _) (own_below HP.out ((Below.refl _ _).alloc (Nat.le_refl _) _)) hg4 (by simp; omega) (Nat.le_refl _)); have hsz4 := HB4.out.size; have hba : Below w2.heap.size w2 (w2.alloc (.cells #[.int .i64 (s.size : Nat)] 3)) := (Below.refl _ _).alloc (Nat.le_refl _) _; have HW4 := Lib.hid (own_apart (own_below HW.out hba) (own_below HP.out hba) NE.out hg4); clear hown4 hg4)
          | (go_at_call 69; refine (HQ.out _ _ _ _ _ _ (HMADE.out _ _ _ _ _ _ _ _ HW4.out HO4.out rfl rfl)).mono ?_; rintro e w5 ⟨A5, c5, vs5, rfl, ho5, he5, hl5, hg5⟩; have HF5 := Lib.hid ((PrgF.of_row ho5 he5 hl5).less (show w.heap.size ≤ _ by simp; omega)); have HB5 := Lib.hid (Below.grown (HB4.out.alloc (by omega) _) hg5 (by simp; omega) (fun k e => by cases e; omega)); have hsz5 := HB5.out.size; clear hg5 ho5 he5)
          | (go_at_call 46; refine (HA2.out _ _ _ HF5.out (HML.out.past HB5.out)).mono ?_; rintro e w6 ⟨rfl, hB6⟩; have HB6 := Lib.hid (HB5.out.trans (hB6.mono hsz5)); clear hB6))
        refine bodyPost_ret (v := .tuple #[.slice none 0 0, .int .i64 0, .iface 43 (.int .i64 f)]) (by simp [results, Tryz.results27, go_sem]) rfl ?_
        exact ParseTo.none_ HRES.out HEV.out HB6.out
  · have HLK : Hid (Calls Tryz.prog 29 #[.string s] w fun e w' => e = .returned (.tuple #[.slice none 0 0, .slice none 0 0, .int .i64 ((lexE s).2 : Nat), .iface 43 (.int .i64 (lexE s).1)]) ∧ Below w.heap.size w w') := Lib.hid (HL.out.mono fun e w' h => h.elim (fun h => by have := h.2; unfold LexBad at this; rwa [← errV_pos hE] at this) (fun h => absurd h.1 hE))
    have HRES := Lib.hid (parseF_lex hE)
    have HEV := Lib.hid (errV_pos hE)
    generalize (lexE s).1 = f at *
    generalize (lexE s).2 = y at *
    clear hE HL
    go_enter Tryz.func27, Tryz.ntmps27
    go_wp2_with (go_at_call 29; refine HLK.out.mono ?_; rintro e w2 ⟨rfl, hB2⟩; have HB := Lib.hid hB2; clear hB2)
    refine bodyPost_ret (v := .tuple #[.slice none 0 0, .int .i64 (y : Nat), .iface 43 (.int .i64 f)]) (by simp [results, Tryz.results27, go_sem]) rfl ?_
    exact ParseTo.none_ HRES.out HEV.out HB.out
end Go.Proofs.YtddfdmopaeghnacGreatDoor
