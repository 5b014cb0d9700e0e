/- Walks of the reference's tails, AllOf. Conditions: the slice of nodes lies below the call's own blocks and is a doc that may be; the tails lie in blocks that nothing is appended to. -/
import Derived.Test.YtddfdmopaeghnabDoorTailsW
import Derived.Test.YtddfdmopaeghnabDoorLayP
import Derived.BigQuiet
import Derived.Deep.QuietTactic
import Derived.Deep.RegionHeld3
import Derived.Deep.CutBlock
namespace Go.Proofs.YtddfdmopaeghnabDoor
open Go.RowKit

/-- What a call of tails leaves. -/
def TailsTo (P : Nat → Prop) (res : List (List Int)) (w : World) (e : Ending) (w' : World) : Prop :=
  ∃ A' c', e = .returned (.slice A' res.length c') ∧ res.length ≤ c' ∧ RowsQ (fun b => P b ∨ w.heap.size ≤ b) w' A' res ∧ Below w.heap.size w w'
def TailsSaid (l : List Nd) (A : Option Addr) (c f : Nat) : Prop :=
  ∀ (i : Nat) (v : Int) (B : List (List Int)) (P : Nat → Prop) (BA : Option Addr) (bn bc k : Nat) (w : World), v = i → i < l.length → l.length ≤ i + f → Nds w w.heap.size A l → RowsQ P w BA B → (∀ b, P b → b < w.heap.size) → B.length = bn → bn ≤ bc → bn ≤ 301 → (∀ u ∈ B, u.length ≤ k) → k + (docAt l i).sz ≤ 1000 →
    Calls Tryd.prog 62 #[.slice A l.length c, .int .i64 v, .slice BA bn bc, .int .i64 300] w (TailsTo P (tailsF 301 (docAt l i) B) w)

theorem OutQ.apart {w : World} {B : Nat} {ov : Value} {done : List (List Int)} {P : Nat → Prop} (h : OutQ w B ov done) (hP : ∀ b, P b → b < B) {N : Nat} (hN : w.heap.size ≤ N) : ∀ b, (P b ∨ N ≤ b) → ov.ownBlock ≠ some b := by
  obtain ⟨vs, h1, _⟩ := h
  intro b hb e
  have := h1.lt b e
  rcases hb with hb | hb
  · have := hP b hb; omega
  · omega

set_option maxRecDepth 100000 in
set_option maxHeartbeats 4000000 in
theorem tails_any {l : List Nd} {x : D} (hd : Doc l x) (A : Option Addr) (c : Nat) : ∀ f, TailsSaid l A c f := by
  have h400 := hd.len
  have HD := Lib.hid hd; clear hd
  intro f
  induction f with
  | zero => intro i v B P BA bn bc k w hv hi hf; omega
  | succ f ih =>
    intro i v B P BA bn bc k w hv hi hf hl hq hP hbn hbc hb3 hbk hks
    subst hv hbn
    have HI := Lib.hid ih; clear ih
    have hsp := (docAt l i).sz_pos
    obtain ⟨b, off, op, t, n, rfl, hb, hnd, hts, d1, d2, d3⟩ := hl.node (Below.refl _ _) hi
    have hone := HD.out.one _ (List.getElem_mem hi)
    rw [hnd] at hone
    have HN := Lib.hid hl; have HQ := Lib.hid hq; have HP := Lib.hid hP; have HBK := Lib.hid hbk
    have HQB : Hid (∀ w' : World, Below w.heap.size w w' → RowsQ P w' BA B) := Lib.hid (fun w' hb => hq.keep (fun b hbb => hb.block b (hP b hbb)))
    clear hl hq hP hbk
    have k1 : IntKind.i64.wrap ((i : Int) + 1) = (i : Int) + 1 := IntWalk.i64_in _ (by omega)
    rcases nd_cases hone with ⟨t', he, ht⟩ | he | he | he | he | he | ⟨n', hn', he⟩ | he | he <;> cases he <;> clear hone
    case succ.inr.inr.inr.inr.inr.inr.inl.refl =>
      rcases HD.out.parts_ hi with ⟨h1, _⟩ | ⟨h1, hi1, h3⟩ | ⟨h1, _⟩
      · rw [hnd] at h1; simp [parts] at h1
      · have hres : tailsF 301 (docAt l i) B = tailsF 301 (docAt l (i + 1)) B := by rw [h3, hnd]; simp [tailsF]
        have hsz : (docAt l i).sz = (docAt l (i + 1)).sz + 1 := by rw [h3]; rfl
        rw [hres]
        clear hnd hres h3 h1
        go_enter Tryd.func62, Tryd.ntmps62
        go_wp2_with (go_at_call 62; refine (HI.out (i + 1) _ B P BA _ bc k _ (by omega) hi1 (by omega) HN.out HQ.out HP.out rfl hbc hb3 HBK.out (by omega)).mono ?_; rintro e w1 ⟨A1, c1, rfl, h1, h2, h3⟩)
        go_ret
        exact ⟨A1, c1, rfl, h1, h2, h3⟩
      · rw [hnd] at h1; simp [parts] at h1
    case succ.inr.inr.inr.inr.inr.inl.refl =>
      rcases HD.out.parts_ hi with ⟨h1, _⟩ | ⟨h1, _⟩ | ⟨h1, hi1, hq1, h4⟩
      · rw [hnd] at h1; simp [parts] at h1
      · rw [hnd] at h1; simp [parts] at h1
      · obtain ⟨q, hqe⟩ : ∃ q, i + 1 + (docAt l (i + 1)).sz = q := ⟨_, rfl⟩
        rw [hqe] at hq1 h4
        have hqz := (docAt l (i + 1)).sz_pos
        have hiq : i + 1 < q := by omega
        have hres : tailsF 301 (docAt l i) B = tailsF 301 (docAt l (i + 1)) (tailsF 301 (docAt l q) B) := by rw [h4, hnd]; simp [tailsF]
        have hsz : (docAt l i).sz = (docAt l (i + 1)).sz + (docAt l q).sz + 1 := by rw [h4]; rfl
        have hce := fun w' hw => endof_doc HD.out (some ⟨b, off, none⟩) c w' hw (i := i + 1) (v := (i : Int) + 1) (by omega) hi1
        rw [show endAt l (i + 1) = q from hqe] at hce
        have HCE := Lib.hid hce
        rw [hres]
        have hT3 := tails_len 301 (docAt l q) B hb3
        have HTR := Lib.hid (tails_rows 301 k (docAt l q) B HBK.out)
        have HI1 := Lib.hid (HI.out q (q : Int) B P BA B.length bc k)
        generalize tailsF 301 (docAt l q) B = T at *
        clear hnd hres h4 h1 hce hqe
        go_enter Tryd.func62, Tryd.ntmps62
        go_wp2_with (first
          | (go_at_call 27; refine (HCE.out _ HN.out).mono ?_; rintro e w0 ⟨rfl, rfl⟩)
          | (go_at_call 62; (fail_if_success have hz := h3); refine (HI1.out _ (by trivial) hq1 (by omega) HN.out HQ.out HP.out (by trivial) hbc hb3 HBK.out (by omega)).mono ?_; rintro e w1 ⟨A1, c1, rfl, h1, h2, h3⟩; have H2 := Lib.hid h2.bound; have H3 := Lib.hid h3; clear h2)
          | (go_at_call 62; refine (HI.out (i + 1) _ T _ A1 _ c1 ((docAt l q).sz + k) _ (by omega) hi1 (by omega) (HN.out.past H3.out) H2.out (fun b hb => hb.2) rfl h1 hT3 HTR.out (by omega)).mono ?_; rintro e w2 ⟨A2, c2, rfl, h4, h5, h6⟩))
        go_ret
        refine ⟨A2, c2, rfl, h4, h5.mono (fun b hb => ?_), H3.out.trans (h6.mono H3.out.size)⟩
        have := H3.out.size
        rcases hb with hb | hb
        · exact hb.1
        · exact .inr (by omega)
    case succ.inr.inr.inr.inr.inr.inr.inr.inr.refl =>
      rcases HD.out.parts_ hi with ⟨h1, _⟩ | ⟨h1, _⟩ | ⟨h1, hi1, hq1, h4⟩
      · rw [hnd] at h1; simp [parts] at h1
      · rw [hnd] at h1; simp [parts] at h1
      · obtain ⟨q, hqe⟩ : ∃ q, i + 1 + (docAt l (i + 1)).sz = q := ⟨_, rfl⟩
        rw [hqe] at hq1 h4
        have hqz := (docAt l (i + 1)).sz_pos
        have hiq : i + 1 < q := by omega
        have hres : tailsF 301 (docAt l i) B = ((tailsF 301 (docAt l (i + 1)) B).map (0 :: ·) ++ (tailsF 301 (docAt l q) B).map (1 :: ·)).take 301 := by rw [h4, hnd]; simp [tailsF]
        have hsz : (docAt l i).sz = (docAt l (i + 1)).sz + (docAt l q).sz + 1 := by rw [h4]; rfl
        have hce := fun w' hw => endof_doc HD.out (some ⟨b, off, none⟩) c w' hw (i := i + 1) (v := (i : Int) + 1) (by omega) hi1
        rw [show endAt l (i + 1) = q from hqe] at hce
        have HCE := Lib.hid hce
        rw [hres]
        have hT3 := tails_len 301 (docAt l q) B hb3
        have hS3 := tails_len 301 (docAt l (i + 1)) B hb3
        have hTR := tails_rows 301 k (docAt l q) B HBK.out
        have hSR := tails_rows 301 k (docAt l (i + 1)) B HBK.out
        have HTR : Hid (∀ u ∈ tailsF 301 (docAt l q) B, u.length ≤ 1000000) := Lib.hid (fun u hu => by have := hTR u hu; omega)
        have HSR : Hid (∀ u ∈ tailsF 301 (docAt l (i + 1)) B, u.length ≤ 1000000) := Lib.hid (fun u hu => by have := hSR u hu; omega)
        have HI1 := Lib.hid (HI.out (i + 1) ((i : Int) + 1) B P BA B.length bc k)
        have HI2 := Lib.hid (HI.out q (q : Int) B P BA B.length bc k)
        clear hTR hSR
        generalize tailsF 301 (docAt l q) B = T at *
        generalize tailsF 301 (docAt l (i + 1)) B = S at *
        have hDL : (S.map (0 :: ·) ++ T.map (1 :: ·)).length = S.length + T.length := by simp
        clear hnd hres h4 h1 hce hqe
        obtain ⟨DD, hDD⟩ : ∃ DD, S.map (0 :: ·) ++ T.map (1 :: ·) = DD := ⟨_, rfl⟩
        rw [hDD] at hDL ⊢
        have HDD := Lib.hid hDD
        clear hDD
        go_enter Tryd.func62, Tryd.ntmps62
        go_upto_region 16 with (first
          | (go_at_call 62; (fail_if_success have hz := H3); refine (HI1.out _ (by first | trivial | omega) hi1 (by omega) HN.out HQ.out HP.out (by trivial) hbc hb3 HBK.out (by omega)).mono ?_; rintro e w1 ⟨A1, c1, rfl, h1, h2, h3⟩; have H2 := Lib.hid h2; have H3 := Lib.hid h3; clear h2 h3)
          | (go_at_call 89; (fail_if_success have hz := HO2); refine (aheadref_any w.heap.size 0 S _ A1 _ c1 rfl (.slice none 0 0) [] w1 H2.out (fun b _ e => by cases e) (OutQ.nil _ _) H3.out.size (by simp; omega) HSR.out).mono ?_; rintro e w2 ⟨ov2, rfl, hO2, hB2, hs2, -⟩; rw [List.nil_append] at hO2; have HO2 := Lib.hid hO2; have HB2 : Hid (Below w.heap.size w w2) := Lib.hid (H3.out.trans hB2); clear hO2 hB2)
          | (go_at_call 27; refine (HCE.out _ (HN.out.past HB2.out)).mono ?_; rintro e w3 ⟨rfl, rfl⟩)
          | (go_at_call 62; refine (HI2.out _ (by first | trivial | omega) hq1 (by omega) (HN.out.past HB2.out) (HQB.out _ HB2.out) (fun b hb => Nat.lt_of_lt_of_le (HP.out b hb) HB2.out.size) (by trivial) hbc hb3 HBK.out (by omega)).mono ?_; rintro e w4 ⟨A4, c4, rfl, h4, h5, h6⟩; have H5 := Lib.hid h5; have H6 := Lib.hid h6; have hap := HO2.out.apart HP.out (Nat.le_refl w2.heap.size); have HAP := Lib.hid hap; clear h5 h6 hap)
          | (go_at_call 89; refine (aheadref_any w.heap.size 1 T _ A4 _ c4 rfl ov2 (S.map (0 :: ·)) w4 H5.out HAP.out (HO2.out.past H6.out) (by have := HB2.out.size; have := H6.out.size; omega) (by simp; omega) HTR.out).mono ?_; rintro e w5 ⟨ov5, rfl, hO5, hB5, hs5, -⟩; have HOE := Lib.hid hO5; have HBE : Hid (Below w.heap.size w w5) := Lib.hid ((HB2.out.trans (H6.out.mono HB2.out.size)).trans hB5); clear hO5 hB5))
        rw [HDD.out] at HOE
        have hbw : Below w.heap.size w w5 := HBE.out
        obtain ⟨A7, c7, hov, hc7, hq7⟩ := HOE.out.form
        subst hov
        have HQ7 := Lib.hid hq7
        clear hq7
        by_cases hbig : 301 < DD.length
        · have q1 : (0 : Int) ≤ 301 := by omega
          have q2 : (301 : Int) ≤ (c7 : Int) := by omega
          have k5 : decide (301 < (DD.length : Int)) = true := decide_eq_true (by omega)
          have k6 : decide (301 < DD.length) = true := decide_eq_true hbig
          have htl : (DD.take 301).length = 301 := by rw [List.length_take]; omega
          go_wp2
          go_ret
          exact ⟨A7, c7, by rw [htl]; rfl, by omega, (HQ7.out.take 301).mono (fun b hb => Or.inr hb), hbw⟩
        · have k5 : decide (301 < (DD.length : Int)) = false := decide_eq_false (by omega)
          have k6 : decide (301 < DD.length) = false := decide_eq_false hbig
          have htl : DD.take 301 = DD := List.take_of_length_le (by omega)
          go_wp2
          go_ret
          exact ⟨A7, c7, by rw [htl]; rfl, by rw [htl]; exact hc7, by rw [htl]; exact HQ7.out.mono (fun b hb => Or.inr hb), hbw⟩
    case succ.inr.inr.inr.inr.inr.inr.inr.inl.refl =>
      rcases HD.out.parts_ hi with ⟨h1, _⟩ | ⟨h1, hi1, h3⟩ | ⟨h1, _⟩
      · rw [hnd] at h1; simp [parts] at h1
      · have hres : tailsF 301 (docAt l i) B = ((if (docAt l (i + 1)).flat.isSome = true then B.map (0 :: ·) else []) ++ (tailsF 301 (docAt l (i + 1)) B).map (1 :: ·)).take 301 := by rw [h3, hnd]; simp [tailsF]
        have hsz : (docAt l i).sz = (docAt l (i + 1)).sz + 1 := by rw [h3]; rfl
        have hfo := fun w' h => flatof_any HD.out (some ⟨b, off, none⟩) c l.length (i + 1) ((i : Int) + 1) w' h (by omega) hi1 (by omega)
        rw [show lineAt l (i + 1) = lineOf (docAt l (i + 1)).flat from rfl] at hfo
        have HFO := Lib.hid hfo
        rw [hres]
        have hS3 := tails_len 301 (docAt l (i + 1)) B hb3
        have hSR := tails_rows 301 k (docAt l (i + 1)) B HBK.out
        have HSR : Hid (∀ u ∈ tailsF 301 (docAt l (i + 1)) B, u.length ≤ 1000000) := Lib.hid (fun u hu => by have := hSR u hu; omega)
        have HBR : Hid (∀ u ∈ B, u.length ≤ 1000000) := Lib.hid (fun u hu => by have := HBK.out u hu; omega)
        have HI1 := Lib.hid (HI.out (i + 1) ((i : Int) + 1) B P BA B.length bc k)
        clear hSR hfo
        generalize tailsF 301 (docAt l (i + 1)) B = S at *
        generalize (docAt l (i + 1)).flat = fl at *
        clear hnd hres h3 h1
        cases fl with
        | none =>
          simp only [lineOf] at HFO
          simp only [Option.isSome_none, Bool.false_eq_true, if_false, List.nil_append]
          have hDL : (S.map (1 :: ·)).length = S.length := by simp
          obtain ⟨DD, hDD⟩ : ∃ DD, S.map (1 :: ·) = DD := ⟨_, rfl⟩
          rw [hDD] at hDL ⊢
          have HDD := Lib.hid hDD
          clear hDD
          go_enter Tryd.func62, Tryd.ntmps62
          go_upto_region 16 with (first
            | (go_at_call 88; refine (HFO.out _ HN.out).mono ?_; rintro e w0 ⟨rfl, hB0⟩; have HB2 := Lib.hid hB0; clear hB0)
            | (go_at_call 62; refine (HI1.out _ (by first | trivial | omega) hi1 (by omega) (HN.out.past HB2.out) (HQB.out _ HB2.out) (fun b hb => Nat.lt_of_lt_of_le (HP.out b hb) HB2.out.size) (by trivial) hbc hb3 HBK.out (by omega)).mono ?_; rintro e w4 ⟨A4, c4, rfl, h4, h5, h6⟩; have H5 := Lib.hid h5; have H6 := Lib.hid h6; clear h5 h6)
            | (go_at_call 89; refine (aheadref_any w.heap.size 1 S _ A4 _ c4 rfl (.slice none 0 0) [] w4 H5.out (fun b _ e => by cases e) (OutQ.nil _ _) (by have := HB2.out.size; have := H6.out.size; omega) (by simp; omega) HSR.out).mono ?_; rintro e w5 ⟨ov5, rfl, hO5, hB5, hs5, -⟩; rw [List.nil_append] at hO5; have HOE := Lib.hid hO5; have HBE : Hid (Below w.heap.size w w5) := Lib.hid ((HB2.out.trans (H6.out.mono HB2.out.size)).trans hB5); clear hO5 hB5))
          rw [HDD.out] at HOE
          have hbw : Below w.heap.size w w5 := HBE.out
          obtain ⟨A7, c7, hov, hc7, hq7⟩ := HOE.out.form
          subst hov
          have HQ7 := Lib.hid hq7
          clear hq7
          by_cases hbig : 301 < DD.length
          · exact absurd hbig (by omega)
          · have k5 : decide (301 < (DD.length : Int)) = false := decide_eq_false (by omega)
            have k6 : decide (301 < DD.length) = false := decide_eq_false hbig
            have htl : DD.take 301 = DD := List.take_of_length_le (by omega)
            go_wp2
            go_ret
            exact ⟨A7, c7, by rw [htl]; rfl, by rw [htl]; exact hc7, by rw [htl]; exact HQ7.out.mono (fun b hb => Or.inr hb), hbw⟩
        | some s =>
          simp only [lineOf] at HFO
          simp only [Option.isSome_some, if_true]
          have hDL : (B.map (0 :: ·) ++ S.map (1 :: ·)).length = B.length + S.length := by simp
          obtain ⟨DD, hDD⟩ : ∃ DD, B.map (0 :: ·) ++ S.map (1 :: ·) = DD := ⟨_, rfl⟩
          rw [hDD] at hDL ⊢
          have HDD := Lib.hid hDD
          clear hDD
          go_enter Tryd.func62, Tryd.ntmps62
          go_upto_region 16 with (first
            | (go_at_call 88; refine (HFO.out _ HN.out).mono ?_; rintro e w0 ⟨rfl, hB0⟩; have HB1 := Lib.hid hB0; clear hB0)
            | (go_at_call 89; (fail_if_success have hz := HO2); refine (aheadref_any w.heap.size 0 B _ BA _ bc rfl (.slice none 0 0) [] w0 (HQB.out _ HB1.out) (fun b _ e => by cases e) (OutQ.nil _ _) HB1.out.size (by simp; omega) HBR.out).mono ?_; rintro e w2 ⟨ov2, rfl, hO2, hB2, hs2, -⟩; rw [List.nil_append] at hO2; have HO2 := Lib.hid hO2; have HB2 : Hid (Below w.heap.size w w2) := Lib.hid (HB1.out.trans hB2); clear hO2 hB2)
            | (go_at_call 62; refine (HI1.out _ (by first | trivial | omega) hi1 (by omega) (HN.out.past HB2.out) (HQB.out _ HB2.out) (fun b hb => Nat.lt_of_lt_of_le (HP.out b hb) HB2.out.size) (by trivial) hbc hb3 HBK.out (by omega)).mono ?_; rintro e w4 ⟨A4, c4, rfl, h4, h5, h6⟩; have H5 := Lib.hid h5; have H6 := Lib.hid h6; have hap := HO2.out.apart HP.out (Nat.le_refl w2.heap.size); have HAP := Lib.hid hap; clear h5 h6 hap)
            | (go_at_call 89; refine (aheadref_any w.heap.size 1 S _ A4 _ c4 rfl ov2 (B.map (0 :: ·)) w4 H5.out HAP.out (HO2.out.past H6.out) (by have := HB2.out.size; have := H6.out.size; omega) (by simp; omega) HSR.out).mono ?_; rintro e w5 ⟨ov5, rfl, hO5, hB5, hs5, -⟩; have HOE := Lib.hid hO5; have HBE : Hid (Below w.heap.size w w5) := Lib.hid ((HB2.out.trans (H6.out.mono HB2.out.size)).trans hB5); clear hO5 hB5))
          rw [HDD.out] at HOE
          have hbw : Below w.heap.size w w5 := HBE.out
          obtain ⟨A7, c7, hov, hc7, hq7⟩ := HOE.out.form
          subst hov
          have HQ7 := Lib.hid hq7
          clear hq7
          by_cases hbig : 301 < DD.length
          · have q1 : (0 : Int) ≤ 301 := by omega
            have q2 : (301 : Int) ≤ (c7 : Int) := by omega
            have k5 : decide (301 < (DD.length : Int)) = true := decide_eq_true (by omega)
            have k6 : decide (301 < DD.length) = true := decide_eq_true hbig
            have htl : (DD.take 301).length = 301 := by rw [List.length_take]; omega
            go_wp2
            go_ret
            exact ⟨A7, c7, by rw [htl]; rfl, by omega, (HQ7.out.take 301).mono (fun b hb => Or.inr hb), hbw⟩
          · have k5 : decide (301 < (DD.length : Int)) = false := decide_eq_false (by omega)
            have k6 : decide (301 < DD.length) = false := decide_eq_false hbig
            have htl : DD.take 301 = DD := List.take_of_length_le (by omega)
            go_wp2
            go_ret
            exact ⟨A7, c7, by rw [htl]; rfl, by rw [htl]; exact hc7, by rw [htl]; exact HQ7.out.mono (fun b hb => Or.inr hb), hbw⟩
      · rw [hnd] at h1; simp [parts] at h1
    all_goals
      have hres : tailsF 301 (docAt l i) B = B := by
        rcases HD.out.parts_ hi with ⟨h1, h2⟩ | ⟨h1, _⟩ | ⟨h1, _⟩
        · rw [h2]; rfl
        · rw [hnd] at h1; simp [parts] at h1
        · rw [hnd] at h1; simp [parts] at h1
      rw [hres]
      clear hnd hres
      go_enter Tryd.func62, Tryd.ntmps62
      go_wp2
      go_ret
      exact ⟨BA, bc, rfl, hbc, HQ.out.mono (fun b hb => .inl hb), Below.refl _ _⟩
end Go.Proofs.YtddfdmopaeghnabDoor
