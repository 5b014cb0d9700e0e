/- Walk of syn's parser: program. Conditions: as in the texts ahead; a word has 60000 bytes at most. -/
import Derived.Test.YtddfdmopaeghnacGreatDoorPsH
namespace Go.Proofs.YtddfdmopaeghnacGreatDoor
open Go.RowKit

/-- A program, or the place of the word that could not stand. -/
def PgTo (g : Nat) (ps : List Nat) (r : Except Nat (List (List Nd))) (w : World) (e : Ending) (w' : World) : Prop :=
  match r with
  | .ok l => ∃ (A : Option Addr) (c : Nat) (vs : List Value), e = .returned (.tuple #[.slice A l.length c, .int .i64 0, .nilIface]) ∧ w'.ownsRow w.heap.size 22 1 (.slice A l.length c) l.length vs ∧ RowP w' w.heap.size (Value.slice A l.length c).ownBlock vs l ∧ l.length ≤ 60000 ∧ w.grownBy w' (some g)
  | .error x => e = .returned (.tuple #[.slice none 0 0, .int .i64 (ps.getD x 0 : Nat), errV 5]) ∧ w.grownBy w' (some g)
theorem PgSt.start {g cw cp : Nat} {W P : Option Addr} {ws : List ByteArray} {ps : List Nat} {w : World} (hs : PsSt g W cw ws P cp ps 0 w) :
    PgSt g W cw ws P cp ps w [] 0 (.slice none 0 0) [] (((w.alloc (.cells #[.slice none 0 0] 35)).alloc (.cells #[.int .i64 0] 3)).alloc (.cells #[.nilIface] 28)) := by
  have hlt := hs.lt
  have hb : Below w.heap.size w (((w.alloc (.cells #[.slice none 0 0] 35)).alloc (.cells #[.int .i64 0] 3)).alloc (.cells #[.nilIface] 28)) := ((((Below.refl _ _).alloc (Nat.le_refl _) _).alloc (by simp) _).alloc (by simp; omega) _)
  refine ⟨hs.past hb, ps_row _ hb, by simp, hlt, ?_, ?_, ?_, World.ownsRow_nil _ _ _ _, ⟨rfl, fun j v hv => by simp at hv⟩⟩
  · rw [Below.heap_alloc _ _ _ (by simp; omega), Below.heap_alloc _ _ _ (by simp)]
    exact heap_new rfl
  · rw [Below.heap_alloc _ _ _ (by simp)]
    exact heap_new (by simp)
  · exact heap_new (by simp)
theorem own_lower {w : World} {B B' : Nat} {e : TypeId} {sz n : Nat} {v : Value} {xs : List Value} (h : w.ownsRow B e sz v n xs) (hb : B' ≤ B) : w.ownsRow B' e sz v n xs := by
  refine ⟨h.1, ?_⟩
  rcases h.2 with h2 | ⟨g, cap, cur, h1, h2, h3⟩
  · exact .inl h2
  · exact .inr ⟨g, cap, cur, h1, by omega, h3⟩

set_option maxRecDepth 100000 in
set_option maxHeartbeats 8000000 in
theorem program_any {g cw cp : Nat} {W P : Option Addr} {ws : List ByteArray} {ps : List Nat} (hdg : DgW ws) (hwb : WdB ws) (w : World) (hs : PsSt g W cw ws P cp ps 0 w) :
    Calls Tryz.prog 69 #[.pointer (some ⟨g, 0, none⟩)] w (PgTo g ps (progP ws ws.length [] 0) w) := by
  obtain ⟨i0, hi0, hz0, hz1, hz2⟩ := info_parts rowT_info
  obtain ⟨R, hR⟩ : ∃ R, R = progP ws ws.length [] 0 := ⟨_, rfl⟩
  rw [← hR]
  have hf := hs.few
  have hgl := hs.lt
  have HS := Lib.hid hs
  have HR := Lib.hid hR
  have HWB := Lib.hid hwb
  have HPK := Lib.hid (fun k' w' (h : PsSt g W cw ws P cp ps k' w') hk => peek_any w' h hk)
  have HNO := Lib.hid (fun k' w' (h : PsSt g W cw ws P cp ps k' w') hk => pnote_any hwb w' h hk)
  have HST := Lib.hid (fun k' w' (h : PsSt g W cw ws P cp ps k' w') hk => pstmt_any hdg w' h hk)
  clear hs hR hdg hwb
  have hmf : ∀ (fn : Fn) (first cap : Array Value) (w : World), (Instr.makeFunc fn first cap).run Tryz.prog w = .ok (.func fn first cap) w := fun _ _ _ _ => rfl
  go_enter_defers Tryz.func69, Tryz.ntmps69
  go_wp2
  go_loopw [] (fun wr => ∃ (out : List (List Nd)) (k j : Nat) (v : Value) (vs : List Value), k ≤ ws.length ∧ ws.length ≤ k + j ∧ out.length ≤ k ∧ Hid (PgSt g W cw ws P cp ps w out k v vs wr) ∧ Hid (R = progP ws j out k)) (fun wr => 60001 - psNext wr g)
  case atStart => exact ⟨[], 0, ws.length, .slice none 0 0, [], Nat.zero_le _, by omega, Nat.le_refl _, Lib.hid (PgSt.start HS.out), HR⟩
  case round =>
    obtain ⟨out, k, j, v, vs, hk, hj, hol, HG, HRR⟩ := hrel
    obtain ⟨A, c, rfl⟩ := own_slice HG.out.own
    have HG0 := HG
    obtain ⟨p0, p1, p2, f2⟩ := HG.out.st.cells
    obtain ⟨o0, of0⟩ := HG.out.cell
    obtain ⟨o1, of1, o2, of2⟩ := HG.out.cells
    rw [show w.heap.size + 2 = w.heap.size + 1 + 1 from rfl] at o2 of2
    by_cases hlt : k < ws.length
    · have q2 : decide ((k : Int) < (ws.length : Int)) = true := decide_eq_true (by omega)
      have HP := Lib.hid (fun w' h => HPK.out k w' h hk)
      have HHP := Lib.hid (fun (W' : World) => Tryz.strings_HasPrefix (wdAt ws k) ⟨#[35]⟩ W')
      have HHP2 : Hid (∀ W', Calls Tryz.prog 112 #[.string (wdAt ws k), .string ⟨#[35]⟩] W' fun e w' => e = .returned (.bool (hashW (wdAt ws k))) ∧ w' = W') := Lib.hid (fun W' => HHP.out W')
      obtain ⟨j, rfl⟩ : ∃ j', j = j' + 1 := ⟨j - 1, by omega⟩
      cases hh : hashW (wdAt ws k) with
      | true =>
        rw [hh] at HHP2
        have hgo := note_goes hh
        have hsh0 : Short (noteP ws k).1 := fun d hd => by have := noteP_b HWB.out hf k d hd; omega
        have hu00 : 0 < (noteP ws k).1.length := by simp [noteP]
        have HRES := Lib.hid (HRR.out.trans (progP_note hh))
        have HQ := Lib.hid (fun w' h => HNO.out k w' h hk)
        generalize noteP ws k = r at *
        obtain ⟨u, k2⟩ := r
        have hsh : Short u := hsh0
        have hu0 : 0 < u.length := hu00
        have hgo : k < k2 ∧ k2 ≤ ws.length := hgo
        clear hsh0 hu00
        generalize wdAt ws k = S at *
        clear HHP hh
        go_wp2
        go_quiet (fail)
        go_wp2_with (first
          | (go_at_call 113; refine (HP.out _ (HG.out.past (below_drewN (Below.refl _ _) _)).st).mono ?_; rintro e w3 ⟨rfl, hB⟩; have HG := Lib.hid ((HG.out.past (below_drewN (Below.refl _ _) _)).past hB); obtain ⟨o0, of0⟩ := HG.out.cell; have hbig := HG.out.big; clear hB)
          | (go_at_call 112; refine (HHP2.out _).mono ?_; rintro e w4 ⟨rfl, rfl⟩))
        refine wp_region_noPanic ?_
        go_region_law (first
          | (go_simp; refine (HQ.out _ (HG.out.past (Below.refl _ _).drew).st).mono ?_; rintro e w8 ⟨A8, c8, rfl, hn8, hs8, hG8⟩; have HC := Lib.hid ((HG.out.past (Below.refl _ _).drew).call hs8 hG8); have HN := Lib.hid hn8; obtain ⟨o8, of8⟩ := HC.out.cell; have oA := fun o => ((HC.out.past ((Below.refl _ _).alloc (Nat.le_refl _) o)).cell).1; clear hn8 hs8 hG8; dsimp only)
          | ((refine step_app (P := Tryz.prog) _ (by rfl) (.tmp 19) (.tmp 22) 35 (by rfl) (w.heap.size + 3) 22 i0 (.slice none 0 0) 1 24 Tryz.underlying35 hi0 hz0 hz1 hz2 rfl (by omega) _ out.length vs (by rfl) (own_below HC.out.own ((Below.refl _ _).alloc (Nat.le_refl _) _)) _ (some ⟨w8.heap.size, 0, none⟩) 1 1 [.slice A8 u.length c8] (by rfl) (Sl.lit _ #[.slice A8 u.length c8] _ 1 rfl) (by intro z hz; rw [List.mem_singleton.1 hz]; rfl) (by simp only [maxLen]; omega) (by omega) (by have := HC.out.big; simp; omega) ?_); intro v9 w9 hown9 hg9 hat9; obtain ⟨A9, c9, hv9⟩ := own_slice hown9; subst hv9; obtain ⟨o9, of9, hp9⟩ := (HC.out.past ((Below.refl _ _).alloc (Nat.le_refl _) _)).app (HN.out.past ((Below.refl _ _).alloc (Nat.le_refl _) _)) hbig HG.out.lows hsh hu0 hown9 hg9 hat9; have HF := Lib.hid hp9; clear hown9 hg9 hat9 hp9))
        all_goals refine NoPanic.normal ?_
        all_goals (refine ⟨?_, ?_⟩; (focus ((repeat apply Exists.intro); refine ⟨?_, rfl⟩; exact ⟨out ++ [u], k2, j, _, _, hgo.2, by omega, by rw [List.length_append]; simp; omega, HF, HRES⟩)); (rw [psNext_at HF.out.st, psNext_at HG0.out.st]; omega))
      | false =>
        rw [hh] at HHP2
        have hgo := stmt_goes ws k hk
        cases hp : stmtP ws k with
        | error x =>
          have HRES := Lib.hid (HRR.out.trans (progP_bad hlt hh hp))
          have HQ := Lib.hid (fun w' h => HST.out k w' h hk)
          rw [hp] at HQ
          generalize wdAt ws k = S at *
          clear HHP hh hp hgo
          go_wp2
          go_quiet (fail)
          go_wp2_with (first
            | (go_at_call 113; refine (HP.out _ (HG.out.past (below_drewN (Below.refl _ _) _)).st).mono ?_; rintro e w3 ⟨rfl, hB⟩; have HG := Lib.hid ((HG.out.past (below_drewN (Below.refl _ _) _)).past hB); obtain ⟨o0, of0⟩ := HG.out.cell; have hbig := HG.out.big; clear hB)
            | (go_at_call 112; refine (HHP2.out _).mono ?_; rintro e w4 ⟨rfl, rfl⟩))
          first | go_region_dies | fail
          all_goals go_wp2_with (go_at_call 115; refine (HQ.out _ (HG.out.past (Below.refl _ _).drew).st).mono ?_; rintro e w8 ⟨rfl, hG8⟩; have HC := Lib.hid ((HG.out.past (Below.refl _ _).drew).dead hG8); clear hG8)
          all_goals
            refine leaves_cons (f := 111) (args := #[.pointer (some ⟨w.heap.size, 0, none⟩), .pointer (some ⟨w.heap.size + 1, 0, none⟩), .pointer (some ⟨w.heap.size + 1 + 1, 0, none⟩)]) (by simp) (by simp [go_sem]) ?_
            refine (pcatch_bad w.heap.size (w.heap.size + 1) (w.heap.size + 1 + 1) _ _ _ _ [] w8 HC.out.h0 HC.out.h1 HC.out.h2 (by omega) (by omega)).mono ?_
            rintro e u' w9 ⟨rfl, rfl, c0, c1, c2, hB⟩
            have HG9 := Lib.hid (grown_under HC.out.row hB (Nat.le_refl _))
            rw [HRES.out]
            clear hB
            simp [Leaves, settle, results, Tryz.results69, go_sem, c0, c1, c2]
            exact ⟨by rw [List.getD_eq_getElem?_getD], HG9.out⟩
        | ok r =>
          obtain ⟨u, k2⟩ := r
          obtain ⟨b1, b2, b3, hu0⟩ := hgo.1 u k2 hp
          have hsh : Short u := fun d hd => by have := stmtP_b HWB.out k u k2 hp d hd; omega
          have hgo : k < k2 ∧ k2 ≤ ws.length := ⟨b1, b2⟩
          have HRES := Lib.hid (HRR.out.trans (progP_stmt hlt hh hp))
          have HQ := Lib.hid (fun w' h => HST.out k w' h hk)
          rw [hp] at HQ
          generalize wdAt ws k = S at *
          clear HHP hh hp
          go_wp2
          go_quiet (fail)
          go_wp2_with (first
            | (go_at_call 113; refine (HP.out _ (HG.out.past (below_drewN (Below.refl _ _) _)).st).mono ?_; rintro e w3 ⟨rfl, hB⟩; have HG := Lib.hid ((HG.out.past (below_drewN (Below.refl _ _) _)).past hB); obtain ⟨o0, of0⟩ := HG.out.cell; have hbig := HG.out.big; clear hB)
            | (go_at_call 112; refine (HHP2.out _).mono ?_; rintro e w4 ⟨rfl, rfl⟩))
          refine wp_region_noPanic ?_
          go_region_law (first
          | (go_simp; refine (HQ.out _ (HG.out.past (Below.refl _ _).drew).st).mono ?_; rintro e w8 ⟨A8, c8, rfl, hn8, hs8, hG8⟩; have HC := Lib.hid ((HG.out.past (Below.refl _ _).drew).call hs8 hG8); have HN := Lib.hid hn8; obtain ⟨o8, of8⟩ := HC.out.cell; have oA := fun o => ((HC.out.past ((Below.refl _ _).alloc (Nat.le_refl _) o)).cell).1; clear hn8 hs8 hG8; dsimp only)
          | ((refine step_app (P := Tryz.prog) _ (by rfl) (.tmp 24) (.tmp 27) 35 (by rfl) (w.heap.size + 3) 22 i0 (.slice none 0 0) 1 24 Tryz.underlying35 hi0 hz0 hz1 hz2 rfl (by omega) _ out.length vs (by rfl) (own_below HC.out.own ((Below.refl _ _).alloc (Nat.le_refl _) _)) _ (some ⟨w8.heap.size, 0, none⟩) 1 1 [.slice A8 u.length c8] (by rfl) (Sl.lit _ #[.slice A8 u.length c8] _ 1 rfl) (by intro z hz; rw [List.mem_singleton.1 hz]; rfl) (by simp only [maxLen]; omega) (by omega) (by have := HC.out.big; simp; omega) ?_); intro v9 w9 hown9 hg9 hat9; obtain ⟨A9, c9, hv9⟩ := own_slice hown9; subst hv9; obtain ⟨o9, of9, hp9⟩ := (HC.out.past ((Below.refl _ _).alloc (Nat.le_refl _) _)).app (HN.out.past ((Below.refl _ _).alloc (Nat.le_refl _) _)) hbig HG.out.lows hsh hu0 hown9 hg9 hat9; have HF := Lib.hid hp9; clear hown9 hg9 hat9 hp9))
          all_goals refine NoPanic.normal ?_
          all_goals (refine ⟨?_, ?_⟩; (focus ((repeat apply Exists.intro); refine ⟨?_, rfl⟩; exact ⟨out ++ [u], k2, j, _, _, hgo.2, by omega, by rw [List.length_append]; simp; omega, HF, HRES⟩)); (rw [psNext_at HF.out.st, psNext_at HG0.out.st]; omega))
    · have HRES : Hid (R = .ok out) := Lib.hid (by rw [HRR.out, progP_end (by omega)])
      have q2 : decide ((k : Int) < (ws.length : Int)) = false := decide_eq_false (by omega)
      go_wp2
      go_quiet (fail)
      go_wp2
      refine leaves_cons (f := 111) (args := #[.pointer (some ⟨w.heap.size, 0, none⟩), .pointer (some ⟨w.heap.size + 1, 0, none⟩), .pointer (some ⟨w.heap.size + 1 + 1, 0, none⟩)]) (by simp) (by simp [go_sem]) ?_
      refine (pcatch_idle _ _ _ _).mono ?_
      rintro e u' w9 ⟨rfl, rfl, hB⟩
      obtain ⟨c0, c1, c2, ho, he, hg⟩ := HG.out.done hB
      rw [HRES.out]
      clear hB
      simp [Leaves, settle, results, Tryz.results69, go_sem, c0, c1, c2]
      exact ⟨A, c, vs, rfl, own_lower ho (by omega), ⟨he.len, fun j v hv => let ⟨Aj, cj, u, h1, h2, h3, h4, h5, h6⟩ := he.els j v hv; ⟨Aj, cj, u, h1, h2, h3.less (by omega), h4, h5, h6⟩⟩, by omega, hg⟩
end Go.Proofs.YtddfdmopaeghnacGreatDoor
