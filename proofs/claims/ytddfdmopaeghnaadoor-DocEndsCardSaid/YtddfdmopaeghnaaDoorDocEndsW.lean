/- Walk of the law DocEnds: it returns true. Conditions: both slices lie below the call's own blocks. -/
import Derived.Test.YtddfdmopaeghnaaDoorWrW
import Derived.Test.YtddfdmopaeghnaaDoorDocE
import Derived.Test.YtddfdmopaeghnaaDoorDocS
import Derived.Test.YtddfdmopaeghnaaDoorRefW
namespace Go.Proofs.YtddfdmopaeghnaaDoor
open Go.RowKit

theorem wp_namedD {P : Program} {c : Code} {Q : Exit → Act → World → Prop} {a : Act} {w : World} (S : World → Prop) (hS : S w) (h : ∀ w', S w' → Code.wp P c Q a w') : Code.wp P c Q a w := h w hS

def eB6 : Nd := ⟨6, .empty, 0⟩
def eWa : Nd := ⟨1, ⟨#[97]⟩, 0⟩
def eD7 : Nd := ⟨7, .empty, 2⟩
def eB2 : Nd := ⟨2, .empty, 0⟩
def factE : D := .bin eB6 (.leaf eWa) (.un eD7 (.leaf eB2))
theorem Doc.factE : Doc [eB6, eWa, eD7, eB2] factE := ⟨⟨rfl, rfl, rfl, rfl⟩, rfl, by decide +kernel, by decide⟩
theorem factE_text : sB factE.text = ⟨#[40, 34, 97, 34, 50, 62, 95, 41]⟩ := by decide +kernel
theorem Nds.lit4 (w : World) (a b c d : Nd) (g : Nat) (hg : w.heap.size = g) (h : ∀ z ∈ [a, b, c, d], z.text.size ≤ maxLen) :
    Nds (w.alloc (.cells #[.int .i64 a.op, .string a.text, .int .i64 a.n, .int .i64 b.op, .string b.text, .int .i64 b.n, .int .i64 c.op, .string c.text, .int .i64 c.n, .int .i64 d.op, .string d.text, .int .i64 d.n] 62)) (w.alloc (.cells #[.int .i64 a.op, .string a.text, .int .i64 a.n, .int .i64 b.op, .string b.text, .int .i64 b.n, .int .i64 c.op, .string c.text, .int .i64 c.n, .int .i64 d.op, .string d.text, .int .i64 d.n] 62)).heap.size (some ⟨g, 0, none⟩) [a, b, c, d] := by
  subst hg
  exact ⟨.lit w _ _ 4 rfl, by simp [maxLen], h⟩

/-- Nodes that may be, without a quote. -/
theorem goodN_all {l : List Nd} {x : D} (hd : Doc l x) (hq : quotedL l = false) : ∀ d ∈ x.enc, GoodN d := by
  intro d h
  rw [← hd.enc] at h
  refine ⟨hd.one d h, ?_⟩
  unfold quotedL at hq
  rw [List.any_eq_false] at hq
  have := hq d h
  simpa using this
theorem sB_inj {a b : List UInt8} (h : sB a = sB b) : a = b := by
  have := congrArg (fun z => z.data.toList) h
  simpa [sB] using this
/-- Two docs without quotes have one text only if they are one. -/
theorem text_same {l o : List Nd} {x y : D} (hl : Doc l x) (ho : Doc o y) (h : quotedL l = false ∧ quotedL o = false) : ((sB x.text).toList == (sB y.text).toList) = sameN l o := by
  have main : sB x.text = sB y.text ↔ l = o := by
    constructor
    · intro e
      have := (text_inj (r := []) (s := []) hl.ok ho.ok (goodN_all hl h.1) (goodN_all ho h.2) (by simp [Fol]) (by simp [Fol]) (by simpa using sB_inj e)).1
      rw [hl.enc, ho.enc, this]
    · intro e
      have : x = y := D.enc_inj hl.ok ho.ok (r := []) (s := []) (by rw [← hl.enc, ← ho.enc, e])
      rw [this]
  by_cases e : l = o
  · rw [main.2 e]
    subst e
    rw [sameN_all rfl rfl]
    simp
  · rw [bytes_ne (fun e2 => e (main.1 e2))]
    unfold sameN
    exact (@decide_eq_false _ (_) e).symm

theorem Doc.sub {l : List Nd} {x : D} (hd : Doc l x) {i : Nat} (hi : i < l.length) : Doc ((l.drop i).take (endAt l i - i)) (docAt l i) := by
  obtain ⟨r, h1, h2⟩ := hd.at_ hi
  have e : (l.drop i).take (endAt l i - i) = (docAt l i).enc := by
    rw [h1, List.take_append_of_le_length (by rw [D.len_enc]; unfold endAt; omega), List.take_of_length_le (by rw [D.len_enc]; unfold endAt; omega)]
  refine ⟨h2, e, fun d hdm => hd.one d (List.mem_of_mem_drop (List.mem_of_mem_take hdm)), ?_⟩
  have := hd.len
  rw [List.length_take, List.length_drop]
  omega
theorem Nds.sub {w : World} {b off B : Nat} {l : List Nd} (h : Nds w B (some ⟨b, off, none⟩) l) (i n : Nat) (hin : i + n ≤ l.length) : Nds w B (some ⟨b, off + i * 3, none⟩) ((l.drop i).take n) := by
  have hlen : ((l.drop i).take n).length = n := by rw [List.length_take, List.length_drop]; omega
  refine ⟨⟨len3 _, fun hn => ?_⟩, by rw [hlen]; have := h.2.1; omega, fun d hdm => h.2.2 d (List.mem_of_mem_drop (List.mem_of_mem_take hdm))⟩
  rw [hlen] at hn
  obtain ⟨b', off', e, hb, hc⟩ := h.1.2 (by omega)
  cases e
  refine ⟨b, off + i * 3, rfl, hb, fun j u hu => ?_⟩
  have hjl := (List.getElem?_eq_some_iff.1 hu).1
  rw [len3, hlen] at hjl
  have hk : j / 3 < ((l.drop i).take n).length := by rw [hlen]; omega
  have e1 := flat3 ((l.drop i).take n) (j / 3) (j % 3) hk (by omega)
  have e2 := flat3 l (i + j / 3) (j % 3) (by omega) (by omega)
  have e3 : ((l.drop i).take n)[j / 3] = l[i + j / 3]'(by omega) := by simp
  rw [show j / 3 * 3 + j % 3 = j by omega, e3, ← e2] at e1
  rw [e1] at hu
  have := hc _ u hu
  rw [← this]
  congr 2
  omega

set_option maxRecDepth 100000 in
set_option maxHeartbeats 4000000 in
theorem docEnds_any (a o : List Nd) (i : Int) (A B : Option Addr) (c cm : Nat) (w : World) (ha : Nds w w.heap.size A a) (hca : a.length ≤ c) (ho : Nds w w.heap.size B o) :
    Calls Tryd.prog 7 #[.slice A a.length c, .int .i64 i, .slice B o.length cm] w (Ret w (.bool true)) := by
  have h4 : ∀ z ∈ [eB6, eWa, eD7, eB2], z.text.size ≤ maxLen := by decide +kernel
  have L1 := Lib.hid (Nds.lit4 w eB6 eWa eD7 eB2 w.heap.size rfl h4)
  clear h4
  have hla := ha.2.1
  have hlo := ho.2.1
  unfold maxLen at hla hlo
  have HA := Lib.hid ha; have HO := Lib.hid ho
  have HB0 : Hid (Below w.heap.size w w) := Lib.hid (Below.refl _ _)
  clear ha ho
  go_enter Tryd.func7, Tryd.ntmps7
  go_wp2_with fail
  refine (text_good Doc.factE _ 4 _ L1.out).mono ?_
  rintro e w1 ⟨rfl, hB1⟩
  rw [factE_text]
  have hB1' : Below w.heap.size w w1 := ((Below.refl _ _).alloc (Nat.le_refl _) _).trans (hB1.mono (by simp))
  have HB := Lib.hid hB1'
  clear hB1 hB1' L1 HB0
  go_upto_region 4 with fail
  by_cases hca0 : checkF a = 0
  case neg =>
    have HBD := Lib.hid (fun w' h => text_bad a A c w' h hca0)
    clear hca0
    go_wp2_with (go_at_call 25; refine (HBD.out _ (HA.out.past HB.out)).mono ?_; rintro e w2 ⟨rfl, hB2⟩)
    go_ret
    exact ⟨rfl, HB.out.trans (hB2.mono HB.out.size)⟩
  obtain ⟨x, da⟩ := Doc.of_check hca0
  have DA := Lib.hid da
  have HTA := Lib.hid (fun w' h => text_good da A c w' h)
  clear da hca0
  have HDO := Lib.hid (fun (w' : World) h1 h2 => docs_any a o a.length o.length rfl rfl A B c cm w' h1 h2)
  have HQA := Lib.hid (fun (w' : World) h => quoted_any a A c w' h)
  have HQO := Lib.hid (fun (w' : World) h => quoted_any o B cm w' h)
  by_cases hco : checkF o = 0
  case' neg =>
    have HTO := Lib.hid (fun w' h => text_bad o B cm w' h hco)
    clear hco
    generalize sB x.text = S1 at HTA
    generalize sameN a o = sm at HDO
    go_upto_region 11 with (first
      | (go_at_call 25; (fail_if_success have hz := hB2); refine (HTA.out _ (HA.out.past HB.out)).mono ?_; rintro e w2 ⟨rfl, hB2⟩; have HB := Lib.hid (HB.out.trans (hB2.mono HB.out.size)))
      | (go_at_call 25; refine (HTO.out _ (HO.out.past HB.out)).mono ?_; rintro e w3 ⟨rfl, hB3⟩; have HB := Lib.hid (HB.out.trans (hB3.mono HB.out.size)))
      | (go_at_call 26; refine (HDO.out _ (HA.out.past HB.out) (HO.out.past HB.out)).mono ?_; rintro e w4 ⟨rfl, hB4⟩; have HB := Lib.hid (HB.out.trans (hB4.mono HB.out.size))))
  case' pos =>
    obtain ⟨y, dob⟩ := Doc.of_check hco
    have HTO := Lib.hid (fun w' h => text_good dob B cm w' h)
    have hst := text_same DA.out dob
    clear dob hco
    generalize sB x.text = S1 at HTA hst
    generalize sB y.text = T1 at HTO hst
    generalize sameN a o = sm at HDO hst
    generalize quotedL a = q1 at HQA hst
    generalize quotedL o = q2 at HQO hst
    have hcs : ((S1.toList == T1.toList) = sm) ∨ ((S1.toList == T1.toList) = !sm ∧ q1 = true) ∨ ((S1.toList == T1.toList) = !sm ∧ q1 = false ∧ q2 = true) := by
      cases q1 <;> cases q2 <;> cases sm <;> cases hh : (S1.toList == T1.toList) <;> simp_all
    clear hst
    rcases hcs with k1 | ⟨k1, rfl⟩ | ⟨k1, rfl, rfl⟩ <;> cases sm
    all_goals
      go_upto_region 11 with (first
        | (go_at_call 25; (fail_if_success have hz := hB2); refine (HTA.out _ (HA.out.past HB.out)).mono ?_; rintro e w2 ⟨rfl, hB2⟩; have HB := Lib.hid (HB.out.trans (hB2.mono HB.out.size)))
        | (go_at_call 25; refine (HTO.out _ (HO.out.past HB.out)).mono ?_; rintro e w3 ⟨rfl, hB3⟩; have HB := Lib.hid (HB.out.trans (hB3.mono HB.out.size)))
        | (go_at_call 26; refine (HDO.out _ (HA.out.past HB.out) (HO.out.past HB.out)).mono ?_; rintro e w4 ⟨rfl, hB4⟩; have HB := Lib.hid (HB.out.trans (hB4.mono HB.out.size)))
        | (go_at_call 27; (fail_if_success have hz := hq5); refine (HQA.out _ (HA.out.past HB.out)).mono ?_; rintro e w5 ⟨rfl, hq5⟩; subst hq5; have hq5 := True.intro)
        | (go_at_call 27; refine (HQO.out _ (HO.out.past HB.out)).mono ?_; rintro e w6 ⟨rfl, hq6⟩; subst hq6))
  all_goals
    refine wp_namedD (fun wx => Below w.heap.size w wx) HB.out ?_
    rintro wx hBx
    have HX := Lib.hid hBx
    clear hBx HB HTA HTO HDO HQA HQO
    by_cases hi : 0 ≤ i ∧ i < (a.length : Int)
    case neg =>
      have HEN := Lib.hid (fun w' h => end_out a A c i w' h DA.out.check (by omega))
      by_cases h0 : i < 0
      · have k7 : decide (i < 0) = true := decide_eq_true h0
        clear hi h0
        go_wp2_with (go_at_call 28; refine (HEN.out _ (HA.out.past HX.out)).mono ?_; rintro e w7 ⟨rfl, hB7⟩)
        go_ret
        exact ⟨rfl, HX.out.trans (hB7.mono HX.out.size)⟩
      · have k7 : decide (i < 0) = false := decide_eq_false h0
        have k8 : decide ((a.length : Int) ≤ i) = true := decide_eq_true (by omega)
        clear hi h0
        go_wp2_with (go_at_call 28; refine (HEN.out _ (HA.out.past HX.out)).mono ?_; rintro e w7 ⟨rfl, hB7⟩)
        go_ret
        exact ⟨rfl, HX.out.trans (hB7.mono HX.out.size)⟩
    obtain ⟨k, rfl⟩ : ∃ k : Nat, i = k := ⟨i.toNat, by omega⟩
    have hk : k < a.length := by omega
    obtain ⟨b, off, rfl, hbw, d1, -, -⟩ := HA.out.at_ hk
    obtain ⟨hE1, hE2⟩ := DA.out.end_le hk
    obtain ⟨p, hp, hpe, hpj⟩ := DA.out.nextEnd_ hk
    have hpb := parts_bd a[k].op
    have hp2 : p ≤ 2 := by omega
    have HSUB := Lib.hid (DA.out.sub hk)
    have HEN := Lib.hid (fun (j : Nat) (hj : j < a.length) w' h => end_in DA.out (some ⟨b, off, none⟩) c j w' h hj)
    have HPE := Lib.hid hpe; have HPJ := Lib.hid hpj
    have HPP := Lib.hid (fun w' => refParts_any a[k].op w')
    rw [hp] at HPP
    have HPJ0 := Lib.hid (DA.out.end_le (i := k))
    have HCK : Hid (∀ (A' : Option Addr) (c' : Nat) (w' : World), Nds w' w'.heap.size A' ((a.drop k).take (endAt a k - k)) → Calls Tryd.prog 29 #[.slice A' (endAt a k - k) c'] w' (Ret w' .nilIface)) := Lib.hid (fun A' c' w' h => by
      have h1 := check_any _ A' c' w' h
      rw [HSUB.out.check, ← errV_zero rfl] at h1
      rwa [show ((a.drop k).take (endAt a k - k)).length = endAt a k - k by rw [List.length_take, List.length_drop]; omega] at h1)
    generalize hEg : endAt a k = E at hE1 hE2 HPE HCK
    have HEG := Lib.hid hEg
    generalize a[k].op = op at *
    clear hpe hpj hEg hi hpb hp HPJ0 HSUB
    go_upto_region 14 with (first
      | (go_at_call 28; refine (HEN.out k hk _ (HA.out.past HX.out)).mono ?_; rw [HEG.out]; rintro e w7 ⟨rfl, hB7⟩; have HX := Lib.hid (HX.out.trans (hB7.mono HX.out.size))))
    have k1 : decide ((E : Int) ≤ (k : Int)) = false := decide_eq_false (by omega)
    have k2 : decide ((a.length : Int) < (E : Int)) = false := decide_eq_false (by omega)
    have k3 : decide ((k : Int) < 0) = false := decide_eq_false (by omega)
    have k1n : decide (E ≤ k) = false := decide_eq_false (by omega)
    have k2n : decide (a.length < E) = false := decide_eq_false (by omega)
    have hEc : E ≤ c := by omega
    have hkE : k ≤ E := by omega
    go_upto_region 16 with (fail)
    refine (HCK.out (some ⟨b, off + k * 3, none⟩) (c - k) w7 ((HA.out.past HX.out).sub k (E - k) (by omega))).mono ?_
    rintro e w8 ⟨rfl, hB8⟩
    have HX := Lib.hid (HX.out.trans (hB8.mono HX.out.size))
    have hkw : IntKind.i64.wrap ((k : Int) + 1) = ((k + 1 : Nat) : Int) := by rw [IntWalk.i64_in _ (by omega)]; omega
    clear HCK k1 k2 k3 k1n k2n
    go_upto_region 18 with fail
    go_loopw [15, 16] (fun at_ k2 wr => ∃ m : Nat, m ≤ p ∧ k2 = .int .i64 m ∧ at_ = .int .i64 (nextEnd a k m : Nat) ∧ Below w.heap.size w wr) (fun _ k2 _ => p - (intOf k2).toNat)
    case atStart => exact ⟨0, by omega, rfl, rfl, HX.out⟩
    case round =>
      rename_i wr
      obtain ⟨m, hm, rfl, rfl, hBr⟩ := hrel
      have HR := Lib.hid hBr
      have d1r := (hBr.cell (p := ⟨b, off + k * 3, none⟩) hbw).trans d1
      clear hBr HX
      by_cases hlt : m < p
      · obtain ⟨j1, j2⟩ := HPJ.out m hlt
        have hel := DA.out.end_le j2
        have HN1 : Hid (endAt a (nextEnd a k m) = nextEnd a k (m + 1)) := Lib.hid rfl
        have HEN2 := Lib.hid (HEN.out _ j2)
        rw [HN1.out] at hel HEN2
        generalize nextEnd a k m = N0 at *
        obtain ⟨N1, hN1⟩ : ∃ N1, nextEnd a k (m + 1) = N1 := ⟨_, rfl⟩
        rw [hN1] at hel HEN2 HN1
        have HN1' := Lib.hid hN1
        clear hN1
        have k6 : decide (N1 ≤ N0) = false := decide_eq_false (by omega)
        have k5 : decide ((N1 : Int) ≤ (N0 : Int)) = false := decide_eq_false (by omega)
        go_wp2_with (first
          | (go_at_call 30; refine (HPP.out _).mono ?_; rintro e w9 ⟨rfl, rfl⟩)
          | (go_at_call 28; refine (HEN2.out _ (HA.out.past HR.out)).mono ?_; rintro e w10 ⟨rfl, hB10⟩; have HR := Lib.hid (HR.out.trans (hB10.mono HR.out.size))))
        go_roundw
        case measure => simp [intOf]; omega
        case rel => exact ⟨m + 1, by omega, by go_num, by rw [HN1'.out], HR.out⟩
      · obtain rfl : m = p := by omega
        rw [HPE.out]
        go_wp2_with (go_at_call 30; refine (HPP.out _).mono ?_; rintro e w9 ⟨rfl, rfl⟩)
        go_ret
        exact ⟨rfl, HR.out⟩
end Go.Proofs.YtddfdmopaeghnaaDoor
