/- Walks: api.Errno's Error, run.told. Conditions: the table of the powers of ten and the variable errors.errorType read as the program's text lays them. The library, further. No condition. Walk: run.number. Conditions: the text is at most 3000 bytes; the table of the powers of ten and the variables strconv.ErrSyntax, ErrRange read as the program's text lays them. Plain: a session, line by line; its answers to the first lines are the beginning of its answers to all. No condition. strings.Builder embedded in run.session's block: copyCheck, WriteString, String (written on behind it), Reset. Conditions: the block is the call's own, from block B on; the text is at most 2^47 bytes. A session in memory: its desk, its text; what stays where the one or the other is written. No condition. -/
import Derived.Test.YtddfdmopaeghnadGreatDoorRqEr
import Derived.Test.YtddfdmopaeghnadGreatDoorRqPa
import Derived.Test.YtddfdmopaeghnadGreatDoorRqSh
import Derived.Lib.AtoiAllCases
import Derived.Test.YtddfdmopaeghnadGreatDoorRqPg
import Derived.Test.YtddfdmopaeghnadGreatDoorRqDe
import Derived.Test.YtddfdmopaeghnadGreatDoorRqSy
import Derived.Lib.FrozenHead
namespace Go.Proofs.YtddfdmopaeghnadGreatDoor
open Go.RowKit

/-- The error's name. -/
def errNm (f : Int) : ByteArray :=
  if f = 0 then ⟨#[79, 75]⟩ else if f = 1 then ⟨#[69, 114, 114, 82, 97, 110, 103, 101]⟩ else if f = 2 then ⟨#[69, 114, 114, 83, 104, 97, 112, 101]⟩ else if f = 3 then ⟨#[69, 114, 114, 70, 117, 108, 108]⟩ else if f = 4 then ⟨#[69, 114, 114, 78, 111, 110, 101]⟩ else if f = 5 then ⟨#[69, 114, 114, 83, 121, 110, 116, 97, 120]⟩ else ⟨#[69, 114, 114, 110, 111]⟩
set_option maxHeartbeats 1000000 in
theorem errno_name (f : Int) (w : World) : Calls Tryz.prog 115 #[.int .i64 f] w fun e w' => e = .returned (.string (errNm f)) ∧ w = w' := by
  unfold errNm
  by_cases h0 : f = 0
  · subst h0
    go_enter Tryz.func115, Tryz.ntmps115
    go_wp2
    go_ret
    exact ⟨rfl, rfl⟩
  rw [if_neg h0]
  have d0 : (f == 0) = false := beq_eq_false_iff_ne.2 h0
  by_cases h1 : f = 1
  · subst h1
    go_enter Tryz.func115, Tryz.ntmps115
    go_wp2
    go_ret
    exact ⟨rfl, rfl⟩
  rw [if_neg h1]
  have d1 : (f == 1) = false := beq_eq_false_iff_ne.2 h1
  by_cases h2 : f = 2
  · subst h2
    go_enter Tryz.func115, Tryz.ntmps115
    go_wp2
    go_ret
    exact ⟨rfl, rfl⟩
  rw [if_neg h2]
  have d2 : (f == 2) = false := beq_eq_false_iff_ne.2 h2
  by_cases h3 : f = 3
  · subst h3
    go_enter Tryz.func115, Tryz.ntmps115
    go_wp2
    go_ret
    exact ⟨rfl, rfl⟩
  rw [if_neg h3]
  have d3 : (f == 3) = false := beq_eq_false_iff_ne.2 h3
  by_cases h4 : f = 4
  · subst h4
    go_enter Tryz.func115, Tryz.ntmps115
    go_wp2
    go_ret
    exact ⟨rfl, rfl⟩
  rw [if_neg h4]
  have d4 : (f == 4) = false := beq_eq_false_iff_ne.2 h4
  by_cases h5 : f = 5
  · subst h5
    go_enter Tryz.func115, Tryz.ntmps115
    go_wp2
    go_ret
    exact ⟨rfl, rfl⟩
  rw [if_neg h5]
  have d5 : (f == 5) = false := beq_eq_false_iff_ne.2 h5
  go_enter Tryz.func115, Tryz.ntmps115
  go_wp2
  go_ret
  exact ⟨rfl, rfl⟩
/-- What is told: a text, or an error by its name, and a place. -/
def toldF (s : ByteArray) (k : Int) (f : Int) : ByteArray := if f = 0 then s ++ ⟨#[10]⟩ else if f = 5 then errNm 5 ++ ⟨#[32]⟩ ++ ⟨(Lib.itoa k).toArray⟩ ++ ⟨#[10]⟩ else errNm f ++ ⟨#[10]⟩
set_option maxHeartbeats 1000000 in
theorem as_nil (t : Value) (w : World) : Calls Tryz.prog 49 #[.nilIface, t] w fun e w' => e = .returned (.bool false) ∧ w = w' := by
  go_enter Tryz.func49, Tryz.ntmps49
  go_wp2
  go_ret
  exact ⟨rfl, rfl⟩
set_option maxRecDepth 100000 in
set_option maxHeartbeats 2000000 in
theorem told_ok (s : ByteArray) (k : Int) (w : World) (hs : s.size ≤ 4000000000) : Calls Tryz.prog 69 #[.string s, .int .i64 k, .nilIface] w (Ret w (.string (toldF s k 0))) := by
  rw [toldF, if_pos rfl]
  go_enter Tryz.func69, Tryz.ntmps69
  go_wp2_with (go_at_call 49; refine (as_nil _ _).mono ?_; rintro e w1 ⟨rfl, rfl⟩)
  go_ret
  exact ⟨rfl, (by repeat (first | exact Below.refl _ _ | assumption | apply Below.drew | refine below_drewN ?_ _ | apply Below.setCell _ (by first | omega | (simp; done) | (simp; omega)) | apply Below.alloc _ (by first | omega | (simp; done) | (simp; omega))))⟩
theorem itoa_all {n : Int} (h0 : -9223372036854775808 ≤ n) (h1 : n ≤ 9223372036854775807) (w : World) (hp : PowT w) : Calls Tryz.prog 71 #[.int .i64 n] w (Ret w (.string ⟨(Lib.itoa n).toArray⟩)) := by
  refine (Tryz.strconv_Itoa n h0 h1 w hp).mono ?_
  rintro e w' ⟨rfl, k, os, rfl⟩
  exact ⟨rfl, below_growD w k os⟩
theorem dec_len : ∀ u : Nat, (Lib.decDigits u).length ≤ u + 1 := by
  intro u
  induction u using Nat.strongRecOn with
  | _ u ih =>
    unfold Lib.decDigits
    split
    · simp
    · have := ih (u / 10) (by omega)
      rw [List.length_append]
      simp
      omega
theorem itoa_short (j : Nat) : (⟨(Lib.itoa (j : Nat)).toArray⟩ : ByteArray).size ≤ j + 1 := by
  have h : Lib.itoa (j : Nat) = Lib.decDigits j := by rw [Lib.itoa, if_neg (by omega)]; simp
  rw [h]
  simpa [ByteArray.size] using dec_len j
theorem errNm_size (f : Int) : (errNm f).size ≤ 9 := by
  unfold errNm
  repeat' split
  all_goals simp [ByteArray.size]
set_option maxRecDepth 100000 in
set_option maxHeartbeats 2000000 in
theorem told_bad (s : ByteArray) (k : Int) (f : Int) (w : World) (hf : f ≠ 0) (hk0 : 0 ≤ k) (hk1 : k ≤ 999999) (hg : ErrT w) (hs : 0 + 1 ≤ w.heap.size) (hp : PowT w) :
    Calls Tryz.prog 69 #[.string s, .int .i64 k, .iface 24 (.int .i64 f)] w (Ret w (.string (toldF s k f))) := by
  have hlt : (0 : Nat) < w.heap.size := by omega
  rw [toldF, if_neg hf]
  have hg2 : (w.alloc (.cells #[.int .i64 0] 24)).cell? ⟨0, 0, none⟩ = some (.iface 249 (.agg #[.pointer (some ⟨9, 27, none⟩)])) := by
    rw [World.cell?_alloc_lt _ _ ⟨0, 0, none⟩ hlt]; exact hg
  have HG := Lib.hid hg2; clear hg2 hg
  have HE := Lib.hid (fun w' => errno_name f w')
  have hsz := errNm_size f
  have HPW := Lib.hid (fun w' (hB : Below w.heap.size w w') => itoa_all (n := k) (by omega) (by omega) w' (hp.past hB))
  have hsi : (⟨(Lib.itoa k).toArray⟩ : ByteArray).size ≤ 1000000 := by
    obtain ⟨j, rfl⟩ : ∃ j : Nat, k = (j : Nat) := ⟨k.toNat, by omega⟩
    have := itoa_short j
    omega
  generalize (⟨(Lib.itoa k).toArray⟩ : ByteArray) = N at *
  clear hp
  by_cases h5 : f = 5
  · subst h5
    rw [if_pos rfl]
    generalize errNm 5 = E at *
    go_enter Tryz.func69, Tryz.ntmps69
    go_wp2_with (first
      | (go_at_call 49; refine (as_hit 5 ⟨w.heap.size, 0, none⟩ (.int .i64 0) _ HG.out (by simp) (by simp)).mono ?_; rintro e w1 ⟨rfl, rfl⟩)
      | (go_at_call 115; refine (HE.out _).mono ?_; rintro e w2 ⟨rfl, rfl⟩)
      | (go_at_call 71; refine (HPW.out _ (by repeat (first | exact Below.refl _ _ | assumption | apply Below.drew | refine below_drewN ?_ _ | apply Below.setCell _ (by first | omega | (simp; done) | (simp; omega)) | apply Below.alloc _ (by first | omega | (simp; done) | (simp; omega))))).mono ?_; rintro e w3 ⟨rfl, hB3⟩))
    go_ret
    exact ⟨rfl, Below.trans (by repeat (first | exact Below.refl _ _ | assumption | apply Below.drew | refine below_drewN ?_ _ | apply Below.setCell _ (by first | omega | (simp; done) | (simp; omega)) | apply Below.alloc _ (by first | omega | (simp; done) | (simp; omega)))) (hB3.mono (show Below w.heap.size w _ from (by repeat (first | exact Below.refl _ _ | assumption | apply Below.drew | refine below_drewN ?_ _ | apply Below.setCell _ (by first | omega | (simp; done) | (simp; omega)) | apply Below.alloc _ (by first | omega | (simp; done) | (simp; omega))))).size)⟩
  · rw [if_neg h5]
    have d5 : (f == 5) = false := beq_eq_false_iff_ne.2 h5
    generalize errNm f = E at *
    go_enter Tryz.func69, Tryz.ntmps69
    go_wp2_with (first
      | (go_at_call 49; refine (as_hit f ⟨w.heap.size, 0, none⟩ (.int .i64 0) _ HG.out (by simp) (by simp)).mono ?_; rintro e w1 ⟨rfl, rfl⟩)
      | (go_at_call 115; refine (HE.out _).mono ?_; rintro e w2 ⟨rfl, rfl⟩))
    go_ret
    exact ⟨rfl, (by repeat (first | exact Below.refl _ _ | assumption | apply Below.drew | refine below_drewN ?_ _ | apply Below.setCell _ (by first | omega | (simp; done) | (simp; omega)) | apply Below.alloc _ (by first | omega | (simp; done) | (simp; omega))))⟩
end Go.Proofs.YtddfdmopaeghnadGreatDoor



namespace Go.Proofs.YtddfdmopaeghnadGreatDoor
open Go.RowKit

/-- The two variables hold errors. -/
def ErrS (w : World) : Prop := (∃ te pe, w.cell? ⟨2, 0, none⟩ = some (.iface te pe)) ∧ ∃ te pe, w.cell? ⟨3, 0, none⟩ = some (.iface te pe)
/-- The number that a text spells, if it is one. -/
def numF (s : ByteArray) : Option Int := match Lib.atoiAll s.data.toList with
  | .ok v => if v < 0 ∨ 4 < s.size ∨ ⟨(Lib.itoa v).toArray⟩ ≠ s then none else some v
  | _ => none
/-- What is thrown. -/
def Unread (w : World) (e : Ending) (w' : World) : Prop := e = .panicked [{ v := .iface 138 (.agg #[]), recovered := false }] ∧ Below w.heap.size w w'
theorem bytes_eq2 {t u : ByteArray} : (t.toList == u.toList) = decide (t = u) := by
  by_cases h : t = u
  · subst h; simp
  · rw [decide_eq_false h, beq_eq_false_iff_ne]
    intro g
    rw [ByteArray.toList_eq, ByteArray.toList_eq] at g
    exact h (ByteArray.ext (Array.toList_inj.1 g))
set_option maxRecDepth 100000 in
set_option maxHeartbeats 2000000 in
theorem number_bad (s : ByteArray) (w : World) (hs : s.size ≤ 3000) (h : numF s = none) (hp : PowT w) (he : ErrS w) :
    Calls Tryz.prog 70 #[.string s] w (Unread w) := by
  obtain ⟨⟨te, pe, h1⟩, tr, pr, h2⟩ := he
  have HI := Lib.hid (fun (v : Int) h0 h1 (w' : World) (hB : Below w.heap.size w w') => itoa_all (n := v) h0 h1 w' (hp.past hB))
  unfold numF at h
  cases ha : Lib.atoiAll s.data.toList with
  | range =>
    have HA := Lib.hid (Tryz.strconv_Atoi_range s (by omega) ha _ w h2 (.inr ⟨tr, pr, rfl⟩))
    clear h1 h2 h ha hp HI
    go_enter Tryz.func70, Tryz.ntmps70
    go_wp2_with (go_at_call 118; refine HA.out.mono ?_; rintro e w1 ⟨N, rfl, -, -, hB⟩)
    exact ⟨rfl, rfl, hB⟩
  | ok v =>
    rw [ha] at h
    simp only at h
    have hv := Lib.atoiAll_bounds ha
    have HA : Hid (Calls Tryz.prog 118 #[.string s] w (Ret w (.tuple #[.int .i64 v, .nilIface]))) := Lib.hid ((Tryz.strconv_Atoi_ok s (by omega) v ha w).mono (fun e w' ⟨h1, h2⟩ => ⟨h1, by rcases h2 with rfl | ⟨t, rfl⟩; exact Below.refl _ _; exact ⟨rfl, rfl, rfl, by rw [Lib.bytesWorld_size]; omega, fun j hj => Lib.bytesWorld_at_old _ _ _ j hj⟩⟩))
    have HIV := Lib.hid (HI.out v hv.1 hv.2)
    have hb : v < 0 ∨ 4 < s.size ∨ ⟨(Lib.itoa v).toArray⟩ ≠ s := by
      by_cases hb : v < 0 ∨ 4 < s.size ∨ ⟨(Lib.itoa v).toArray⟩ ≠ s
      · exact hb
      · rw [if_neg hb] at h; cases h
    have hne := bytes_eq2 (t := ⟨(Lib.itoa v).toArray⟩) (u := s)
    clear h1 h2 h ha hp HI hv
    generalize (⟨(Lib.itoa v).toArray⟩ : ByteArray) = I at *
    by_cases h0 : v < 0
    · have d1 : decide (v < 0) = true := decide_eq_true h0
      clear hb hne HIV
      go_enter Tryz.func70, Tryz.ntmps70
      go_wp2_with (go_at_call 118; refine HA.out.mono ?_; rintro e w1 ⟨rfl, hB⟩)
      exact ⟨rfl, rfl, hB⟩
    · have d1 : decide (v < 0) = false := decide_eq_false h0
      by_cases h4 : 4 < s.size
      · have d2 : decide ((s.size : Int) > 4) = true := decide_eq_true (by omega)
        clear hb hne HIV
        go_enter Tryz.func70, Tryz.ntmps70
        go_wp2_with (go_at_call 118; refine HA.out.mono ?_; rintro e w1 ⟨rfl, hB⟩)
        exact ⟨rfl, rfl, hB⟩
      · have d2 : decide ((s.size : Int) > 4) = false := decide_eq_false (by omega)
        rw [decide_eq_false ((hb.resolve_left h0).resolve_left h4)] at hne
        clear hb
        go_enter Tryz.func70, Tryz.ntmps70
        go_wp2_with (first
          | (go_at_call 118; refine HA.out.mono ?_; rintro e w1 ⟨rfl, hB⟩)
          | (go_at_call 71; refine (HIV.out _ hB).mono ?_; rintro e w2 ⟨rfl, hB2⟩; have hB3 : Below w.heap.size w w2 := hB.trans (hB2.mono hB.size)))
        exact ⟨rfl, rfl, hB3⟩
  | _ =>
    have HA : Hid (Calls Tryz.prog 118 #[.string s] w fun e w' => ∃ N, e = .returned (.tuple #[.int .i64 0, .iface 294 (.pointer (some ⟨N, 0, none⟩))]) ∧ Below w.heap.size w w') := Lib.hid ((Any.strconv_Atoi_syntax Tryz.laysC172 s (by omega) ha _ w h1 (.inr ⟨te, pe, rfl⟩)).mono (fun _ _ ⟨N, k1, _, _, k4⟩ => ⟨N, k1, k4⟩))
    clear h1 h2 h ha hp HI
    go_enter Tryz.func70, Tryz.ntmps70
    go_wp2_with (go_at_call 118; refine HA.out.mono ?_; rintro e w1 ⟨N, rfl, hB⟩)
    exact ⟨rfl, rfl, hB⟩
set_option maxRecDepth 100000 in
set_option maxHeartbeats 2000000 in
theorem number_ok (s : ByteArray) (v : Int) (w : World) (hs : s.size ≤ 3000) (h : numF s = some v) (hp : PowT w) :
    Calls Tryz.prog 70 #[.string s] w (Ret w (.int .i64 v)) := by
  have HI := Lib.hid (fun (v : Int) h0 h1 (w' : World) (hB : Below w.heap.size w w') => itoa_all (n := v) h0 h1 w' (hp.past hB))
  unfold numF at h
  cases ha : Lib.atoiAll s.data.toList with
  | ok u =>
    rw [ha] at h
    simp only at h
    have hv := Lib.atoiAll_bounds ha
    have HA : Hid (Calls Tryz.prog 118 #[.string s] w (Ret w (.tuple #[.int .i64 u, .nilIface]))) := Lib.hid ((Tryz.strconv_Atoi_ok s (by omega) u ha w).mono (fun e w' ⟨h1, h2⟩ => ⟨h1, by rcases h2 with rfl | ⟨t, rfl⟩; exact Below.refl _ _; exact ⟨rfl, rfl, rfl, by rw [Lib.bytesWorld_size]; omega, fun j hj => Lib.bytesWorld_at_old _ _ _ j hj⟩⟩))
    have HIV := Lib.hid (HI.out u hv.1 hv.2)
    have hne := bytes_eq2 (t := ⟨(Lib.itoa u).toArray⟩) (u := s)
    by_cases hb : u < 0 ∨ 4 < s.size ∨ ⟨(Lib.itoa u).toArray⟩ ≠ s
    · rw [if_pos hb] at h; cases h
    · rw [if_neg hb] at h
      injection h with h
      subst h
      have d1 : decide (u < 0) = false := decide_eq_false (fun h => hb (.inl h))
      have d2 : decide ((s.size : Int) > 4) = false := decide_eq_false (fun h => hb (.inr (.inl (by omega))))
      rw [decide_eq_true (show _ = s from Decidable.not_not.1 (fun h => hb (.inr (.inr h))))] at hne
      clear ha hp HI hv hb
      generalize (⟨(Lib.itoa u).toArray⟩ : ByteArray) = I at *
      go_enter Tryz.func70, Tryz.ntmps70
      go_wp2_with (first
        | (go_at_call 118; refine HA.out.mono ?_; rintro e w1 ⟨rfl, hB⟩)
        | (go_at_call 71; refine (HIV.out _ hB).mono ?_; rintro e w2 ⟨rfl, hB2⟩; have hB3 : Below w.heap.size w w2 := hB.trans (hB2.mono hB.size)))
      go_ret
      exact ⟨rfl, hB3⟩
  | _ => rw [ha] at h; cases h
end Go.Proofs.YtddfdmopaeghnadGreatDoor

namespace Go.Proofs.YtddfdmopaeghnadGreatDoor

/-- A session: the desk's width, program, lines; the text. -/
structure Ses where
  W : Int
  p : List (List Nd)
  K : List ByteArray
  s : ByteArray
def okT : ByteArray := ⟨#[111, 107, 10]⟩
def badT : ByteArray := ⟨#[98, 97, 100, 10]⟩
def itoaB (n : Int) : ByteArray := ⟨(Lib.itoa n).toArray⟩
/-- 'set' -/
noncomputable def setS (x : Ses) : Ses × ByteArray :=
  if (parseF x.s).1 = 0 then
    if formE x.W (parseF x.s).2.2 = 0 then ({ x with p := (parseF x.s).2.2, K := seenL [] (parseF x.s).2.2 }, toldF (itoaB (newN x.K [] (parseF x.s).2.2 : Nat)) 0 0)
    else (x, toldF (itoaB 0) 0 (formE x.W (parseF x.s).2.2))
  else (x, toldF (itoaB 0) (parseF x.s).2.1 (parseF x.s).1)
/-- 'wide N' -/
noncomputable def wideS (x : Ses) (V : Int) : Ses × ByteArray :=
  if wideF V = true then
    if formE V x.p = 0 then ({ x with W := V, K := seenL [] x.p }, toldF ⟨#[111, 107]⟩ 0 0) else (x, toldF ⟨#[111, 107]⟩ 0 (formE V x.p))
  else (x, toldF ⟨#[111, 107]⟩ 0 1)
/-- A bar ahead of each line. -/
def barsF : Bool → List UInt8 → List UInt8
  | _, [] => []
  | true, c :: r => 124 :: c :: barsF (c == 10) r
  | false, c :: r => c :: barsF (c == 10) r
/-- 'look' -/
def lookS (x : Ses) : ByteArray :=
  if (fmtF x.s x.W).1 = 0 then toldF (itoaB (difL 0 x.s.data.toList (fmtF x.s x.W).2.2.data.toList)) 0 0 else toldF (itoaB 0) (fmtF x.s x.W).2.1 (fmtF x.s x.W).1
/-- What is behind a beginning. -/
def behindL : List UInt8 → List UInt8 → Option (List UInt8)
  | [], l => some l
  | _ :: _, [] => none
  | a :: r, c :: l => if a = c then behindL r l else none
/-- A line. -/
noncomputable def lineS (x : Ses) (l : List UInt8) : Ses × ByteArray :=
  match behindL [43] l with
  | some r => ({ x with s := x.s ++ ⟨(r ++ [10]).toArray⟩ }, okT)
  | none => match behindL [119, 105, 100, 101, 32] l with
    | some r => match numF ⟨r.toArray⟩ with
      | some V => wideS x V
      | none => (x, badT)
    | none =>
      if l = [115, 101, 116] then setS x
      else if l = [116, 101, 120, 116] then (x, ⟨(barsF true (formT x.W x.p).data.toList).toArray⟩ ++ okT)
      else if l = [108, 111, 111, 107] then (x, lookS x)
      else if l = [100, 114, 111, 112] then ({ x with s := .empty }, okT)
      else (x, badT)
/-- The first line, and what is behind its end. -/
def cutL : List UInt8 → List UInt8 × List UInt8
  | [] => ([], [])
  | c :: r => if c = 10 then ([], r) else (c :: (cutL r).1, (cutL r).2)
theorem cutL_len (c : UInt8) : ∀ r : List UInt8, (cutL (c :: r)).2.length ≤ r.length := by
  intro r
  induction r generalizing c with
  | nil => by_cases h : c = 10 <;> simp [cutL, h]
  | cons d r ih =>
    by_cases h : c = 10
    · simp [cutL, h]
    · have := ih d
      rw [cutL, if_neg h]
      simp only [List.length_cons]
      omega
/-- All lines, one by one. -/
noncomputable def runS : Nat → Ses → List UInt8 → List UInt8
  | 0, _, _ => []
  | _ + 1, _, [] => []
  | n + 1, x, c :: r => (lineS x (cutL (c :: r)).1).2.data.toList ++ runS n (lineS x (cutL (c :: r)).1).1 (cutL (c :: r)).2
theorem runS_nil (n : Nat) (x : Ses) : runS n x [] = [] := by cases n <;> rfl
theorem runS_fuel : ∀ (n m : Nat) (x : Ses) (l : List UInt8), l.length ≤ n → l.length ≤ m → runS n x l = runS m x l
  | n, m, x, [], _, _ => by rw [runS_nil, runS_nil]
  | 0, _, _, _ :: _, h, _ => by simp at h
  | _, 0, _, _ :: _, _, h => by simp at h
  | n + 1, m + 1, x, c :: r, h, g => by
    have := cutL_len c r
    simp only [List.length_cons] at h g
    rw [runS, runS, runS_fuel n m _ _ (by omega) (by omega)]
/-- A text whose last line is ended. -/
def NlEnd (a : List UInt8) : Prop := a = [] ∨ ∃ b, a = b ++ [10]
theorem NlEnd.cut {c : UInt8} : ∀ {r : List UInt8}, NlEnd (c :: r) → ∀ b, NlEnd (cutL (c :: r)).2 ∧ cutL (c :: r ++ b) = ((cutL (c :: r)).1, (cutL (c :: r)).2 ++ b) := by
  intro r
  induction r generalizing c with
  | nil =>
    intro h b
    rcases h with h | ⟨d, h⟩
    · cases h
    · have : c = 10 := by
        cases d with
        | nil => simpa using h
        | cons e d => simp at h
      subst this
      exact ⟨.inl (by simp [cutL]), by simp [cutL]⟩
  | cons e r ih =>
    intro h b
    have h' : NlEnd (e :: r) := by
      rcases h with h | ⟨d, h⟩
      · cases h
      · cases d with
        | nil => simp at h
        | cons d0 d =>
          simp only [List.cons_append, List.cons.injEq] at h
          exact .inr ⟨d, h.2⟩
    by_cases hc : c = 10
    · subst hc
      exact ⟨by simpa [cutL] using h', by simp [cutL]⟩
    · obtain ⟨g1, g2⟩ := ih h' b
      rw [cutL, if_neg hc]
      refine ⟨g1, ?_⟩
      rw [List.cons_append, cutL, if_neg hc, g2]
/-- THE FIRST LINES' ANSWERS ARE THE BEGINNING OF ALL. -/
theorem runS_begins : ∀ (n m : Nat) (x : Ses) (a b : List UInt8), NlEnd a → a.length ≤ n → (a ++ b).length ≤ m → ∃ t, runS m x (a ++ b) = runS n x a ++ t
  | n, m, x, [], b, _, _, _ => ⟨runS m x b, by rw [runS_nil]; rfl⟩
  | 0, _, _, _ :: _, _, _, h, _ => by simp at h
  | _, 0, _, _ :: _, _, _, _, h => by simp at h
  | n + 1, m + 1, x, c :: r, b, ha, hn, hm => by
    obtain ⟨g1, g2⟩ := ha.cut b
    have h1 := cutL_len c r
    simp only [List.length_cons, List.cons_append, List.length_append] at hn hm
    obtain ⟨t, ht⟩ := runS_begins n m (lineS x (cutL (c :: r)).1).1 (cutL (c :: r)).2 b g1 (by omega) (by rw [List.length_append]; omega)
    refine ⟨t, ?_⟩
    rw [List.cons_append, runS, runS, ← List.cons_append, g2]
    simp only
    rw [ht, List.append_assoc]
/-- run.Run -/
noncomputable def runF (s : ByteArray) : ByteArray :=
  if 3000 < s.size then ⟨#[116, 111, 111, 32, 108, 111, 110, 103, 10]⟩ else ⟨(runS s.size ⟨40, [], [], .empty⟩ s.data.toList).toArray⟩
/-- How far the first n lines go. -/
def atF : Nat → Nat → List UInt8 → Nat
  | 0, at_, _ => at_
  | _, at_, [] => at_
  | n + 1, at_, c :: r => if c = 10 then atF n (at_ + 1) r else atF (n + 1) (at_ + 1) r
end Go.Proofs.YtddfdmopaeghnadGreatDoor

namespace Go.Proofs.YtddfdmopaeghnadGreatDoor
open Go.Shelf Go.RowKit

/-- The session's block: the builder's two fields, the desk. -/
def RsAt (B b : Nat) (p : Value) (bs : List Value) (x : Value) (w : World) : Prop :=
  B ≤ b ∧ ∃ v, w.heap[b]? = some (.cells #[p, v, x] 97 (0, 0)) ∧ w.ownsRowF B 5 1 v bs.length bs ∧ v.ownBlock ≠ some b
def IsRs (B b : Nat) (bs : List Value) (x : Value) (w : World) : Prop := RsAt B b (.pointer none) bs x w ∨ RsAt B b (.pointer (some ⟨b, 0, none⟩)) bs x w

theorem rsSizeB : (Tryz.prog.info? 88).map (·.size) = some 2 := by kernel_rfl
theorem rsLies : liesAt Tryz.prog Tryz.prog.depth 97 (3 / Tryz.prog.cellsOf 97) 0 88 1 = true := by kernel_rfl

set_option maxHeartbeats 1000000 in
set_option maxRecDepth 100000 in
theorem rscopy_used (b : Nat) (w : World) (h0 : w.cell? ⟨b, 0, none⟩ = some (.pointer (some ⟨b, 0, none⟩))) :
    Calls Tryz.prog 60 #[.pointer (some ⟨b, 0, none⟩)] w fun e w' => e = .returned (.tuple #[]) ∧ w' = w :=
  Any.Builder_copyCheck_used { bldLays166 with } bldExtra.toX72 b w h0

set_option maxHeartbeats 1000000 in
set_option maxRecDepth 100000 in
theorem rscopy_fresh (b : Nat) (w : World) (h0 : w.cell? ⟨b, 0, none⟩ = some (.pointer none)) (hsh : w.shape? b = some (97, 3)) (hfz : w.frozen? ⟨b, 0, none⟩ = false) :
    Calls Tryz.prog 60 #[.pointer (some ⟨b, 0, none⟩)] w fun e w' => e = .returned (.tuple #[]) ∧ w' = w.setCell ⟨b, 0, none⟩ (.pointer (some ⟨b, 0, none⟩)) := by
  obtain ⟨j, hj, hjs⟩ := Option.map_eq_some_iff.1 rsSizeB
  go_enter Tryz.func60, Tryz.ntmps60
  go_wp2
  rw [Lib.run_to_unsafe w ⟨b, 0, none⟩ Tryz.underlying85 Tryz.underlying176 hj (by rw [hjs]; decide) hsh (Nat.zero_lt_succ 2)]
  simp only [Result.andThen]
  rw [Oper.upon_value]
  go_wp2
  rw [run_callFunc_extern Tryz.func111 (by kernel_rfl) (by kernel_rfl) (by kernel_rfl) (e := Extern.AbiNoEscape.same) (by kernel_rfl)]
  rw [Lib.run_noEscape]
  simp only [Result.andThen]
  rw [Oper.upon_value]
  go_wp2
  rw [Lib.run_from_unsafe w ⟨b, 0, none⟩ Tryz.underlying176 Tryz.underlying85 hj hsh rsLies]
  simp only [Result.andThen]
  rw [Oper.upon_value]
  go_wp2
  go_end0
  exact ⟨rfl, rfl⟩

theorem RsAt.used {B b : Nat} {bs : List Value} {p x : Value} {w : World} (h : RsAt B b p bs x w) (q : Value) : RsAt B b q bs x (w.setCell ⟨b, 0, none⟩ q) := by
  obtain ⟨hB, v, hb, hown, hne⟩ := h
  refine ⟨hB, v, ?_, ?_, hne⟩
  · simp [World.setCell, Array.getElem?_modify, hb]
  · exact hown.kept (row := some b) ⟨rfl, rfl, rfl, by simp [World.setCell], fun k _ hk => Below.heap_setCell _ _ _ _ (fun e => hk (by simp [e]))⟩ (Or.inr hne)

/-- What lies beside the session: all but its block and rows of bytes. -/
def BesideR (b : Nat) (w w' : World) : Prop := ∀ (k : Nat) (o : Obj), w.heap[k]? = some o → k ≠ b → (∀ c fz, o ≠ .cells c 5 fz) → w'.heap[k]? = some o
theorem BesideR.refl (b : Nat) (w : World) : BesideR b w w := fun _ _ h _ _ => h
theorem BesideR.trans {b : Nat} {u v w : World} (h : BesideR b u v) (g : BesideR b v w) : BesideR b u w := fun _ _ hk hne ho => g _ _ (h _ _ hk hne ho) hne ho
theorem BesideR.set {b : Nat} (w : World) (j : Nat) (v : Value) : BesideR b w (w.setCell ⟨b, j, none⟩ v) := fun _ _ hk hne _ => (Below.heap_setCell _ _ _ _ hne).trans hk
theorem BesideR.alloc {b : Nat} (w : World) (o : Obj) : BesideR b w (w.alloc o) := fun _ _ hk _ _ => (Below.heap_alloc _ _ _ (Array.getElem?_eq_some_iff.1 hk).1).trans hk
theorem BesideR.below {b : Nat} {w w' : World} (h : Below w.heap.size w w') : BesideR b w w' := fun _ _ hk _ _ => (h.block _ (Array.getElem?_eq_some_iff.1 hk).1).trans hk
theorem BesideR.grown {b : Nat} {w w' : World} {B n : Nat} {v : Value} {xs : List Value} (h : w.ownsRowF B 5 1 v n xs) (hg : w.grownBy w' v.ownBlock) : BesideR b w w' := by
  intro k o hk _ ho
  refine (hg.block k (Array.getElem?_eq_some_iff.1 hk).1 (fun e => ?_)).trans hk
  rcases h.2 with ⟨rfl, _⟩ | ⟨g, cap, cur, fz, rfl, _, hgb, _⟩
  · cases e
  · have : k = g := Option.some.inj e
    subst this
    rw [hk] at hgb
    exact ho _ _ (Option.some.inj hgb)

/-- An append to a row of bytes, behind a frozen head: the row stays where it was, or is a new one. -/
theorem append_where {P : Program} (w : World) (base : Nat) (t u ty e : TypeId) (i : TypeInfo) (ht : P.underlying t = some (.slice e)) (hu : P.underlying u = some .string) (hi : P.info? e = some i) (hz : i.zero = some (.int .u8 0))
    (hsize : i.size = 1) (hby : i.bytes = 1) (v : Value) (n : Nat) (xs : List Value) (hown : w.ownsRowF base e 1 v n xs) (s : ByteArray)
    (h63 : n + s.size ≤ maxLen) (hbytes : n + s.size ≤ 140737488355328) (hbase : base ≤ w.heap.size) :
    ∃ v' w', (Builtin.append_ #[t, u] ty #[v, .string s]).run P w = .ok v' w' ∧ w'.ownsRowF base e 1 v' (n + s.size) (xs ++ Lib.strCells s) ∧ w.grownBy w' v.ownBlock ∧
      (∀ g, v'.ownBlock = some g → v.ownBlock = some g ∨ w.heap.size ≤ g) := by
  obtain ⟨v', w', hr, h2, h3, _⟩ := Lib.run_append_own_stringF (P := P) w base t u ty e i ht hu hi hz hsize hby v n xs hown s h63 hbytes hbase
  refine ⟨v', w', hr, h2, h3, fun g hg => ?_⟩
  rcases hown.2 with ⟨rfl, rfl⟩ | ⟨g0, cap, cur, fz, rfl, hbg, hgg, hfz, hnc, hcm, hcs, htake⟩
  · have hx : xs = [] := by simpa using hown.1
    subst hx
    obtain ⟨v2, w2, hr2, k2, _, _⟩ := Lib.run_append_own_stringF (P := P) w w.heap.size t u ty e i ht hu hi hz hsize hby (.slice none 0 0) 0 [] (World.ownsRowF_nil _ _ _ _) s h63 hbytes (Nat.le_refl _)
    rw [hr] at hr2
    injection hr2 with e1 e2
    subst e1
    exact .inr (k2.lt g hg).1
  · have hxl : xs.length = n := by simpa using hown.1
    by_cases hroom : n + s.size ≤ cap
    · have hr2 := Lib.run_append_room_stringF (P := P) w t u ty e i ht hu hi hsize g0 n cap cur fz hgg (by simpa using hfz) s hroom (by omega)
      rw [hr] at hr2
      injection hr2 with e1 e2
      subst e1
      exact .inl hg
    · have hr2 := Lib.run_append_grow_string (P := P) w t u ty e i (.int .u8 0) ht hu hi hz ⟨g0, 0, none⟩ n cap xs (by rw [hsize]; simpa using hxl) (hown.cells (g := g0) rfl) s (by omega) (by simp only [maxLen] at h63; omega) (by rw [hby]; exact growslice_fits (by omega) (by omega))
      rw [hr] at hr2
      injection hr2 with e1 e2
      subst e1
      simp [Value.ownBlock] at hg
      exact .inr (by omega)
theorem wpList_append_where {P : Program} {w : World} {ops : Array Oper} {rest : List Oper} {o : Oper} {a : Act} {Q : Exit → Act → World → Prop} (hgd : o.guard = none) (sl x : Operand) (t u : TypeId)
    (ho : o.op = .call { callee := .builtin .append, args := #[sl, x], argTypes := #[t, u] })
    (base : Nat) (e : TypeId) (i : TypeInfo) (ht : P.underlying t = some (.slice e)) (hu : P.underlying u = some .string) (hi : P.info? e = some i) (hz : i.zero = some (.int .u8 0))
    (hsize : i.size = 1) (hby : i.bytes = 1)
    (v : Value) (n : Nat) (xs : List Value) (hs : a.eval sl = v) (hown : w.ownsRowF base e 1 v n xs) (s : ByteArray) (hx : a.eval x = .string s)
    (h63 : n + s.size ≤ maxLen) (hbytes : n + s.size ≤ 140737488355328) (hbase : base ≤ w.heap.size)
    (h : ∀ v' w', w'.ownsRowF base e 1 v' (n + s.size) (xs ++ Lib.strCells s) → w.grownBy w' v.ownBlock → (∀ g, v'.ownBlock = some g → v.ownBlock = some g ∨ w.heap.size ≤ g) → wpList P ops Q rest (a.put o.dst v') w') : wpList P ops Q (o :: rest) a w := by
  refine wpList_plain hgd fun K hK => ?_
  obtain ⟨v', w', hr, h2, h3, h4⟩ := append_where (P := P) w base t u o.type e i ht hu hi hz hsize hby v n xs hown s h63 hbytes hbase
  unfold Oper.wp execOp
  simp only [ho, resolve, invoke, builtin, Sem.run_bind, Sem.run_pure, Result.andThen_ok, List.map_toArray, List.map_cons, List.map_nil, hs, hx, hr]
  exact hK _ _ (h v' w' h2 h3 h4)

/-- What a call on the builder leaves: all blocks but the session's and the row of its text; the row stays, or is a new one. -/
def RsFr (b : Nat) (w w' : World) : Prop :=
  (∀ v, w.cell? ⟨b, 1, none⟩ = some v → ∀ k, k ≠ b → v.ownBlock ≠ some k → k < w.heap.size → w'.heap[k]? = w.heap[k]?) ∧
  ∀ v v' g, w.cell? ⟨b, 1, none⟩ = some v → w'.cell? ⟨b, 1, none⟩ = some v' → v'.ownBlock = some g → v.ownBlock = some g ∨ w.heap.size ≤ g
def RsC (b : Nat) (w w' : World) : Prop := (∀ k, k ≠ b → w'.heap[k]? = w.heap[k]?) ∧ w'.heap.size = w.heap.size ∧ w'.cell? ⟨b, 1, none⟩ = w.cell? ⟨b, 1, none⟩
theorem rs_copyCheck (B b : Nat) (bs : List Value) (x : Value) (w : World) (h : IsRs B b bs x w) :
    Calls Tryz.prog 60 #[.pointer (some ⟨b, 0, none⟩)] w fun e w' => e = .returned (.tuple #[]) ∧ (RsAt B b (.pointer (some ⟨b, 0, none⟩)) bs x w' ∧ Below B w w' ∧ BesideR b w w' ∧ RsC b w w') := by
  rcases h with h | h
  · have h' := h
    obtain ⟨hB, v, hb, hown, hne⟩ := h'
    refine (rscopy_fresh b w (by simp [World.cell?, hb]) (by simp [World.shape?, hb]) (Lib.frozen_of_heap hb 0)).mono ?_
    rintro e w' ⟨rfl, rfl⟩
    exact ⟨rfl, h.used _, (Below.refl B w).setCell (p := ⟨b, 0, none⟩) hB _, BesideR.set _ _ _, fun k hk => Below.heap_setCell _ _ _ _ hk, by simp [World.setCell], by simp [World.setCell, World.cell?, Array.getElem?_modify, hb]⟩
  · have h' := h
    obtain ⟨hB, v, hb, hown, hne⟩ := h'
    refine (rscopy_used b w (by simp [World.cell?, hb])).mono ?_
    rintro e w' ⟨rfl, rfl⟩
    exact ⟨rfl, h, Below.refl B _, BesideR.refl _ _, fun _ _ => rfl, rfl, rfl⟩

theorem rsbyte_info : (Tryz.prog.info? 5).map (fun i => (i.zero, i.size, i.bytes)) = some (some (.int .u8 0), 1, 1) := by kernel_rfl

set_option maxHeartbeats 2000000 in
set_option maxRecDepth 100000 in
theorem rs_write_ (B b : Nat) (bs : List Value) (x : Value) (s : ByteArray) (w : World) (h : IsRs B b bs x w) (hlen : bs.length + s.size ≤ 140737488355328) (hBw : B ≤ w.heap.size) :
    Calls Tryz.prog 35 #[.pointer (some ⟨b, 0, none⟩), .string s] w fun e w' => e = .returned (.tuple #[.int .i64 s.size, .nilIface]) ∧ (RsAt B b (.pointer (some ⟨b, 0, none⟩)) (bs ++ Lib.strCells s) x w' ∧ Below B w w' ∧ BesideR b w w' ∧ RsFr b w w') := by
  obtain ⟨i0, hi, hz0, hz1, hz2⟩ := info_parts rsbyte_info
  go_enter Tryz.func35, Tryz.ntmps35
  go_wp2_with (go_at_call 60; refine (rs_copyCheck B b bs x _ h).mono ?_)
  rintro e w1 ⟨rfl, h1, hb1, hbz, hc⟩
  have HC := Lib.hid hc
  clear hc
  obtain ⟨hB, v, hbk, hown, hne⟩ := h1
  have c0 : w1.cell? ⟨b, 0, none⟩ = some (.pointer (some ⟨b, 0, none⟩)) := by rw [Lib.cell_of_heap hbk]; rfl
  have c1 : w1.cell? ⟨b, 1, none⟩ = some v := by rw [Lib.cell_of_heap hbk]; rfl
  go_wp2_with (at_builtin; refine wpList_append_where rfl _ _ 86 9 rfl B 5 i0 Tryz.underlying86 Tryz.underlying9 hi hz0 hz1 hz2 _ _ _ rfl hown s rfl ?c3 ?c4 ?c5 ?_)
  case c3 => unfold maxLen; omega
  case c4 => omega
  case c5 => have := hb1.size; omega
  intro v' w2 hown' hgrow hwh
  have hlt : b < w1.heap.size := by
    rcases Nat.lt_or_ge b w1.heap.size with h' | h'
    · exact h'
    · simp [Array.getElem?_eq_none h'] at hbk
  have hb2 : w2.heap[b]? = some (.cells #[.pointer (some ⟨b, 0, none⟩), v, x] 97 (0, 0)) := by
    rw [hgrow.block b hlt (fun e => hne e.symm)]
    exact hbk
  have d0 : w2.cell? ⟨b, 0, none⟩ = some (.pointer (some ⟨b, 0, none⟩)) := by rw [Lib.cell_of_heap hb2]; rfl
  have d1 : w2.cell? ⟨b, 1, none⟩ = some v := by rw [Lib.cell_of_heap hb2]; rfl
  have f1 : w2.frozen? ⟨b, 1, none⟩ = false := Lib.frozen_of_heap hb2 1
  obtain ⟨ao, n', cap, rfl⟩ : ∃ ao n' cap, v' = .slice ao n' cap := by
    rcases hown'.2 with ⟨hv, _⟩ | ⟨g, cap, cur, fz, hv, _⟩
    · exact ⟨_, _, _, hv⟩
    · exact ⟨_, _, _, hv⟩
  go_wp2
  go_ret2
  obtain ⟨hc1, hc2, hc3⟩ := HC.out
  refine ⟨rfl, ?_, ?_, hbz.trans ((BesideR.grown hown hgrow).trans (BesideR.set _ _ _)), ?_, ?_⟩
  · have hown'' : w2.ownsRowF B 5 1 (.slice ao n' cap) (bs ++ Lib.strCells s).length (bs ++ Lib.strCells s) := by simpa [Lib.strCells_length] using hown'
    have hne' : (Value.slice ao n' cap).ownBlock ≠ some b := Lib.ownBlock_neF hown'' hb2 (by decide)
    refine ⟨hB, _, ?_, ?_, hne'⟩
    · simp [World.setCell, Array.getElem?_modify, hb2]
    · exact hown''.kept (row := some b) ⟨rfl, rfl, rfl, by simp [World.setCell], fun k _ hk => Below.heap_setCell _ _ _ _ (fun e => hk (by simp [e]))⟩ (Or.inr hne')
  · exact (hb1.grown hgrow (by have := hb1.size; omega) (fun k hk => (hown.lt k hk).1)).setCell (p := ⟨b, 1, none⟩) hB _
  · intro v2 hv2 k hk hne2 hlt2
    rw [← hc3, c1] at hv2
    injection hv2 with hv2
    subst hv2
    exact (Below.heap_setCell _ _ _ _ hk).trans ((hgrow.block k (by omega) (fun e => hne2 e.symm)).trans (hc1 k hk))
  · intro v2 v3 g hv2 hv3 hg
    rw [← hc3, c1] at hv2
    injection hv2 with hv2
    subst hv2
    have : v3 = .slice ao n' cap := by
      simp [World.setCell, World.cell?, Array.getElem?_modify, hb2] at hv3
      exact hv3.symm
    subst this
    rw [← hc2]
    exact hwh g hg

/-- The session in block b, of the call's own from B on: the text so far, the desk. -/
def RsW (B b : Nat) (x : Value) (s : ByteArray) (w : World) : Prop :=
  IsRs B b (Lib.strCells s) x w ∧ B ≤ w.heap.size ∧ (s.data.toList = [] → ∃ p, w.heap[b]? = some (.cells #[p, .slice none 0 0, x] 97 (0, 0)))
theorem RsAt.past {B b : Nat} {p x : Value} {bs : List Value} {w w' : World} (h : RsAt B b p bs x w) (hb : Below w.heap.size w w') : RsAt B b p bs x w' := by
  obtain ⟨h1, v, h2, h3, h4⟩ := h
  refine ⟨h1, v, (hb.block b (Array.getElem?_eq_some_iff.1 h2).1).trans h2, ?_, h4⟩
  refine ⟨h3.1, ?_⟩
  rcases h3.2 with hn | ⟨g, cap, cur, fz, rfl, hbg, hgg, rest⟩
  · exact .inl hn
  · exact .inr ⟨g, cap, cur, fz, rfl, hbg, (hb.block g (Array.getElem?_eq_some_iff.1 hgg).1).trans hgg, rest⟩
theorem IsRs.blk {B b : Nat} {bs : List Value} {x : Value} {w : World} (h : IsRs B b bs x w) : B ≤ b ∧ b < w.heap.size ∧ ∃ p v, w.heap[b]? = some (.cells #[p, v, x] 97 (0, 0)) := by
  rcases h with ⟨h1, v, h2, _⟩ | ⟨h1, v, h2, _⟩
  · exact ⟨h1, (Array.getElem?_eq_some_iff.1 h2).1, _, _, h2⟩
  · exact ⟨h1, (Array.getElem?_eq_some_iff.1 h2).1, _, _, h2⟩
theorem RsW.past {B b : Nat} {x : Value} {s : ByteArray} {w w' : World} (h : RsW B b x s w) (hb : Below w.heap.size w w') : RsW B b x s w' :=
  ⟨h.1.imp (·.past hb) (·.past hb), Nat.le_trans h.2.1 hb.size, fun e => (h.2.2 e).imp fun _ k => (hb.block b h.1.blk.2.1).trans k⟩
theorem RsW.c2 {B b : Nat} {x : Value} {s : ByteArray} {w : World} (h : RsW B b x s w) : w.cell? ⟨b, 2, none⟩ = some x := by
  obtain ⟨_, _, p, v, h⟩ := h.1.blk
  rw [Lib.cell_of_heap h]; rfl
theorem RsW.free {B b : Nat} {x : Value} {s : ByteArray} {w : World} (h : RsW B b x s w) (j : Nat) : w.frozen? ⟨b, j, none⟩ = false := by
  obtain ⟨_, _, p, v, h⟩ := h.1.blk
  exact Lib.frozen_of_heap h j
theorem rs_nil {B b : Nat} {x : Value} {w : World} (hB : B ≤ b) (hs : B ≤ w.heap.size) (h : w.heap[b]? = some (.cells #[.pointer none, .slice none 0 0, x] 97 (0, 0))) : RsW B b x .empty w :=
  ⟨.inl ⟨hB, _, h, World.ownsRowF_nil _ _ _ _, by simp [Value.ownBlock]⟩, hs, fun _ => ⟨_, h⟩⟩
theorem RsW.new (w : World) (x : Value) : RsW w.heap.size w.heap.size x .empty (w.alloc (.cells #[.pointer none, .slice none 0 0, x] 97)) :=
  rs_nil (Nat.le_refl _) (by simp) (heap_new rfl)
/-- Behind a call on the builder. -/
def RsTo (B b : Nat) (x : Value) (s : ByteArray) (w w' : World) : Prop := RsW B b x s w' ∧ Below B w w' ∧ BesideR b w w' ∧ w.heap.size ≤ w'.heap.size ∧ RsFr b w w'
theorem rs_write (B b : Nat) (x : Value) (s t : ByteArray) (w : World) (h : RsW B b x s w) (hlen : s.size + t.size ≤ 140737488355328) (ht : t.data.toList ≠ []) :
    Calls Tryz.prog 35 #[.pointer (some ⟨b, 0, none⟩), .string t] w fun e w' => e = .returned (.tuple #[.int .i64 t.size, .nilIface]) ∧ RsTo B b x (s ++ t) w w' :=
  (rs_write_ B b (Lib.strCells s) x t w h.1 (by rw [Lib.strCells_length]; exact hlen) h.2.1).mono fun e w' ⟨he, hb, hB, hO, hF⟩ =>
    ⟨he, ⟨by rw [← strCells_app]; exact .inr hb, Nat.le_trans h.2.1 hB.size, fun e => absurd e (by simp [ByteArray.data_append, ht])⟩, hB, hO, hB.size, hF⟩

theorem BesideR.freeze {b g n : Nat} {w : World} {c : Array Value} {fz : Nat × Nat} (hg : w.heap[g]? = some (.cells c 5 fz)) : BesideR b w (w.freeze ⟨g, 0, none⟩ n) := by
  intro k o hk _ ho
  unfold World.freeze
  split
  · exact hk
  · have hkg : g ≠ k := fun e => by subst e; rw [hg] at hk; exact ho _ _ (Option.some.inj hk).symm
    simp only [Array.getElem?_modify]
    rw [if_neg hkg]
    exact hk
theorem RsAt.froze {B b g cap : Nat} {p x : Value} {bs : List Value} {w : World} (h : RsAt B b p bs x w) (hc : w.cell? ⟨b, 1, none⟩ = some (.slice (some ⟨g, 0, none⟩) bs.length cap)) :
    RsAt B b p bs x (w.freeze ⟨g, 0, none⟩ bs.length) := by
  obtain ⟨hB, v, hb, hown, hne⟩ := h
  have hv : v = .slice (some ⟨g, 0, none⟩) bs.length cap := by
    rw [Lib.cell_of_heap hb] at hc
    simpa using hc
  subst hv
  have hgb : g ≠ b := fun e => hne (by simp [Value.ownBlock, e])
  unfold World.freeze
  split
  · exact ⟨hB, _, hb, hown, hne⟩
  · rename_i hn0
    refine ⟨hB, _, ?_, ⟨hown.1, ?_⟩, hne⟩
    · simp only [Array.getElem?_modify]
      rw [if_neg hgb]
      exact hb
    · rcases hown.2 with ⟨hv, _⟩ | ⟨g', cap', cur, fz, hv, hbg, hg, hfz, rest⟩
      · cases hv
      · injection hv with ha _ hcap
        injection ha with ha
        injection ha with hgg _ _
        subst hgg
        subst hcap
        obtain ⟨lo, hi⟩ := fz
        refine .inr ⟨g, _, cur, (if lo == hi then (0, 0 + bs.length) else (min lo 0, max hi (0 + bs.length))), rfl, hbg, ?_, ?_, rest⟩
        · simp [Array.getElem?_modify, hg]
        · simp only at hfz
          split <;> simp <;> omega

set_option maxHeartbeats 2000000 in
set_option maxRecDepth 100000 in
/-- String of a session's text that is not empty. -/
theorem rs_string1 (B b : Nat) (x : Value) (s : ByteArray) (w : World) (h : RsW B b x s w) (h0 : s.data.toList ≠ []) :
    Calls Tryz.prog 37 #[.pointer (some ⟨b, 0, none⟩)] w fun e w' => e = .returned (.string s) ∧ RsTo B b x s w w' := by
  obtain ⟨p, hp, hAt⟩ : ∃ p, (p = .pointer none ∨ p = .pointer (some ⟨b, 0, none⟩)) ∧ RsAt B b p (Lib.byteCells s.data.toList) x w := by
    rcases h.1 with h | h
    · exact ⟨_, .inl rfl, h⟩
    · exact ⟨_, .inr rfl, h⟩
  have hBw := h.2.1
  clear h
  have hes : s = ⟨s.data.toList.toArray⟩ := rfl
  generalize s.data.toList = l at *
  subst hes
  obtain ⟨hB, v, hbk, hown, hne⟩ := hAt
  have hl0 : l.length ≠ 0 := by simpa using h0
  rw [Lib.byteCells_length] at hown
  obtain ⟨g, cap, cur, fz, rfl, hbg, hg, hfz, hnc, hcm, hcs, htake⟩ : ∃ g cap cur fz, v = .slice (some ⟨g, 0, none⟩) l.length cap ∧ B ≤ g ∧ w.heap[g]? = some (.cells cur 5 fz) ∧ fz.2 ≤ l.length * 1 ∧ l.length ≤ cap ∧ cap ≤ maxLen ∧ cur.size = cap * 1 ∧ cur.toList.take (l.length * 1) = Lib.byteCells l := by
    rcases hown.2 with ⟨_, hz⟩ | ⟨g, cap, cur, fz, hv, r⟩
    · exact absurd hz hl0
    · exact ⟨g, cap, cur, fz, hv, r⟩
  have c1 : w.drew.cell? ⟨b, 1, none⟩ = some (.slice (some ⟨g, 0, none⟩) l.length cap) := by
    have : w.drew.heap[b]? = some (.cells #[p, .slice (some ⟨g, 0, none⟩) l.length cap, x] 97 (0, 0)) := hbk
    rw [Lib.cell_of_heap this]; rfl
  have hSD : (Builtin.unsafeSliceData_ #[86] 131 #[.slice (some ⟨g, 0, none⟩) l.length cap]).run Tryz.prog w.drew = .ok (.pointer (some ⟨g, 0, none⟩)) w.drew :=
    Lib.run_unsafeSliceData_row _ _ _ _ _ _ (by omega)
  have hUS : (Builtin.unsafeString_ #[131, 3] 9 #[.pointer (some ⟨g, 0, none⟩), .int .i64 l.length]).run Tryz.prog w.drew = .ok (.string ⟨l.toArray⟩) (w.drew.freeze ⟨g, 0, none⟩ l.length) := by
    refine Lib.run_unsafeString_row w.drew 131 3 9 5 Tryz.underlying131 (by kernel_rfl) g cur.size (by have hg' : w.drew.heap[g]? = some (.cells cur 5 fz) := hg; simp [World.shape?, hg']) l h0 (by omega) (by unfold maxLen at hcm; omega) ?_
    intro j x hx
    have := hown.cells (g := g) rfl j (.int .u8 x.toNat) (by simp [Lib.byteCells, hx])
    exact this
  have hkeep : RsTo B b x ⟨l.toArray⟩ w (w.drew.freeze ⟨g, 0, none⟩ l.length) := by
    have hA : RsAt B b p (Lib.byteCells l) x w.drew := ⟨hB, _, hbk, by rw [Lib.byteCells_length]; exact hown, hne⟩
    have hF := hA.froze (g := g) (cap := cap) (by rw [Lib.byteCells_length]; exact c1)
    rw [Lib.byteCells_length] at hF
    have hbl : Below B w (w.drew.freeze ⟨g, 0, none⟩ l.length) := Lib.below_freeze (Below.drew (Below.refl B w)) (p := ⟨g, 0, none⟩) hbg _
    have hI : IsRs B b (Lib.strCells ⟨l.toArray⟩) x (w.drew.freeze ⟨g, 0, none⟩ l.length) := by
      rcases hp with rfl | rfl
      · exact .inl hF
      · exact .inr hF
    refine ⟨⟨hI, Nat.le_trans hBw hbl.size, fun e => absurd e (by simpa using h0)⟩, hbl, BesideR.freeze (w := w.drew) hg, hbl.size, ?_, ?_⟩
    · intro v2 hv2 k hk hne2 hlt2
      have hv3 : w.cell? ⟨b, 1, none⟩ = some (.slice (some ⟨g, 0, none⟩) l.length cap) := c1
      rw [hv3] at hv2
      injection hv2 with hv2
      subst hv2
      have hgk : g ≠ k := fun e => hne2 (by simp [Value.ownBlock, e])
      unfold World.freeze
      split
      · rfl
      · simp only [Array.getElem?_modify]
        rw [if_neg hgk]
        rfl
    · intro v2 v3 g2 hv2 hv3 hg2
      obtain ⟨_, v4, hb4, _⟩ : RsAt B b p (Lib.byteCells l) x (w.drew.freeze ⟨g, 0, none⟩ l.length) := hF
      have e1 : (w.drew.freeze ⟨g, 0, none⟩ l.length).heap[b]? = w.heap[b]? := by
        have hgb : g ≠ b := fun e => hne (by simp [Value.ownBlock, e])
        unfold World.freeze
        split
        · rfl
        · simp only [Array.getElem?_modify]
          rw [if_neg hgb]
          rfl
      rw [World.cell?_of_block (w := w) (a := ⟨b, 1, none⟩) e1, hv2] at hv3
      injection hv3 with hv3
      subst hv3
      exact .inl hg2
  have mixed := bldLays169.mixed
  go_enter Tryz.func37, Tryz.ntmps37
  go_wp2
  go_region_o
  all_goals (go_wp2; go_ret; exact ⟨rfl, hkeep⟩)

set_option maxHeartbeats 2000000 in
set_option maxRecDepth 100000 in
theorem rs_string0 (B b : Nat) (x : Value) (w : World) (h : RsW B b x .empty w) :
    Calls Tryz.prog 37 #[.pointer (some ⟨b, 0, none⟩)] w fun e w' => e = .returned (.string .empty) ∧ RsTo B b x .empty w w' := by
  obtain ⟨p, hbk⟩ := h.2.2 rfl
  have hUS : (Builtin.unsafeString_ #[131, 3] 9 #[.pointer none, .int .i64 0]).run Tryz.prog w.drew = .ok (.string .empty) w.drew := Lib.run_unsafeString_none _ _ _ _ none
  have c1 : w.drew.cell? ⟨b, 1, none⟩ = some (.slice none 0 0) := by
    have : w.drew.heap[b]? = some (.cells #[p, .slice none 0 0, x] 97 (0, 0)) := hbk
    rw [Lib.cell_of_heap this]; rfl
  have hSD : (Builtin.unsafeSliceData_ #[86] 131 #[.slice none 0 0]).run Tryz.prog w.drew = .ok (.pointer none) w.drew := rfl
  have hk : RsTo B b x .empty w w.drew := ⟨h, Below.drew (Below.refl B w), fun _ _ hk _ _ => hk, Nat.le_refl _, fun _ _ _ _ _ _ => rfl, fun v v' g hv hv' hg => .inl (by have : some v = some v' := hv.symm.trans hv'; injection this with this; rw [this]; exact hg)⟩
  have mixed := bldLays169.mixed
  go_enter Tryz.func37, Tryz.ntmps37
  go_wp2
  go_region_o
  all_goals (go_wp2; go_ret; exact ⟨rfl, hk⟩)
theorem rs_string (B b : Nat) (x : Value) (s : ByteArray) (w : World) (h : RsW B b x s w) :
    Calls Tryz.prog 37 #[.pointer (some ⟨b, 0, none⟩)] w fun e w' => e = .returned (.string s) ∧ RsTo B b x s w w' := by
  by_cases h0 : s.data.toList = []
  · have : s = .empty := by
      cases s with
      | mk d => simp at h0; subst h0; rfl
    subst this
    exact rs_string0 B b x w h
  · exact rs_string1 B b x s w h h0
set_option maxHeartbeats 1000000 in
theorem rs_reset (B b : Nat) (x : Value) (s : ByteArray) (w : World) (h : RsW B b x s w) :
    Calls Tryz.prog 73 #[.pointer (some ⟨b, 0, none⟩)] w fun e w' => e = .returned (.tuple #[]) ∧ RsTo B b x .empty w w' := by
  obtain ⟨hB, hlt, p, v, hbk⟩ := h.1.blk
  have hBw := h.2.1
  have c0 : w.cell? ⟨b, 0, none⟩ = some p := by rw [Lib.cell_of_heap hbk]; rfl
  have f0 := h.free 0
  have hb2 : (w.setCell ⟨b, 0, none⟩ (.pointer none)).heap[b]? = some (.cells #[.pointer none, v, x] 97 (0, 0)) := by simp [World.setCell, Array.getElem?_modify, hbk]
  have c1 : (w.setCell ⟨b, 0, none⟩ (.pointer none)).cell? ⟨b, 1, none⟩ = some v := by rw [Lib.cell_of_heap hb2]; rfl
  have f1 : (w.setCell ⟨b, 0, none⟩ (.pointer none)).frozen? ⟨b, 1, none⟩ = false := Lib.frozen_of_heap hb2 1
  go_enter Tryz.func73, Tryz.ntmps73
  go_wp2
  go_end0
  refine ⟨rfl, rs_nil hB (by simpa [World.setCell] using hBw) (by simp [World.setCell, Array.getElem?_modify, hbk]), ((Below.refl B w).setCell (p := ⟨b, 0, none⟩) hB _).setCell (p := ⟨b, 1, none⟩) hB _, (BesideR.set _ _ _).trans (BesideR.set _ _ _), by simp [World.setCell], fun _ _ k hk _ _ => (Below.heap_setCell _ _ _ _ hk).trans (Below.heap_setCell _ _ _ _ hk), fun _ v' g _ hv' hg => by simp [World.setCell, World.cell?, Array.getElem?_modify, hbk] at hv'; subst hv'; cases hg⟩
end Go.Proofs.YtddfdmopaeghnadGreatDoor

namespace Go.Proofs.YtddfdmopaeghnadGreatDoor
open Go.RowKit Go.Maps

/-- Blocks from lo on, as far as the older world goes, are as they were. -/
def Win (lo : Nat) (w w' : World) : Prop := w.heap.size ≤ w'.heap.size ∧ ∀ k, lo ≤ k → k < w.heap.size → w'.heap[k]? = w.heap[k]?
theorem Win.refl (lo : Nat) (w : World) : Win lo w w := ⟨Nat.le_refl _, fun _ _ _ => rfl⟩
theorem Win.trans {lo : Nat} {u v w : World} (h : Win lo u v) (g : ∀ k, lo ≤ k → k < u.heap.size → w.heap[k]? = v.heap[k]?) (hz : v.heap.size ≤ w.heap.size) : Win lo u w :=
  ⟨Nat.le_trans h.1 hz, fun k h1 h2 => (g k h1 h2).trans (h.2 k h1 h2)⟩
theorem NdF.win {lo : Nat} {w w' : World} {A : Option Addr} {l : List Nd} (h : NdF lo w A l) (hg : Win lo w w') : NdF lo w' A l := by
  obtain ⟨⟨⟨h1, h2⟩, h3, h4⟩, h5⟩ := h
  refine ⟨⟨⟨h1, fun hn => ?_⟩, h3, h4⟩, h5⟩
  obtain ⟨b, off, rfl, hb, hc⟩ := h2 hn
  refine ⟨b, off, rfl, Nat.lt_of_lt_of_le hb hg.1, fun j u hu => ?_⟩
  exact (World.cell?_of_block (w := w) (a := ⟨b, off + j, none⟩) (hg.2 b (h5 _ rfl) hb)).trans (hc j u hu)
theorem PrgF.win {lo : Nat} {w w' : World} {A : Option Addr} {l : List (List Nd)} (h : PrgF lo w A l) (hg : Win lo w w') : PrgF lo w' A l := by
  obtain ⟨⟨vs, ⟨a1, a2⟩, h2⟩, h3, h4⟩ := h
  refine ⟨⟨vs, ⟨a1, fun hn => ?_⟩, fun j v hv => let ⟨Aj, cj, u, g1, g2, g3, g4⟩ := h2 j v hv; ⟨Aj, cj, u, g1, g2, g3.win hg, g4⟩⟩, h3, h4⟩
  obtain ⟨b, off, rfl, hb, hc⟩ := a2 hn
  refine ⟨b, off, rfl, Nat.lt_of_lt_of_le hb hg.1, fun j u hu => ?_⟩
  exact (World.cell?_of_block (w := w) (a := ⟨b, off + j, none⟩) (hg.2 b (h4 _ rfl) hb)).trans (hc j u hu)

/-- A session: block d is the desk's, b the session's; the program lies in a window of its own, in which the text's row does not lie; none of the blocks F is the session's. -/
structure SesAt (w0 : World) (d b : Nat) (x : Ses) (F : Nat → Prop) (w : World) : Prop where
  desk : ∃ P c mv lo w1, w.heap[d]? = some (.cells #[.int .i64 x.W, .slice P x.p.length c, mv] 67 (0, 0)) ∧ PrgF lo w1 P x.p ∧ Win lo w1 w ∧ b < lo ∧
    KnownM x.W x.K mv w ∧ (∀ u ∈ x.p, lineL u ∈ x.K) ∧ OnDesk x.W x.p ∧ (∀ m, mv = .map (some m) → d < m ∧ ¬ F m) ∧
    (∀ v g, w.cell? ⟨b, 1, none⟩ = some v → v.ownBlock = some g → (g < lo ∨ w1.heap.size ≤ g) ∧ ¬ F g) ∧ ∀ k, F k → k < lo ∨ w1.heap.size ≤ k
  text : RsW b b (.pointer (some ⟨d, 0, none⟩)) x.s w
  lt : d < b
  old : w0.heap.size ≤ d
  bel : Below w0.heap.size w0 w
  few : ∀ k, F k → k < w.heap.size
  far : ¬ F d ∧ ¬ F b
/-- A session behind a call, which has kept the blocks F. -/
def SesTo (w0 : World) (d b : Nat) (x : Ses) (F : Nat → Prop) (w w' : World) : Prop := SesAt w0 d b x F w' ∧ (∀ k, F k → w'.heap[k]? = w.heap[k]?) ∧ w.heap.size ≤ w'.heap.size
theorem SesAt.lo {w0 : World} {d b : Nat} {x : Ses} {F : Nat → Prop} {w : World} (h : SesAt w0 d b x F w) : DeskL d (d + 1) x.W x.p x.K w := by
  obtain ⟨P, c, mv, lo, w1, h1, h2, h3, h4, h5, h6, h7, h8, h9, h10⟩ := h.desk
  have := h.lt
  exact ⟨P, c, mv, h1, (h2.win h3).less (by omega), h5, h6, fun m e => (h8 m e).1, h7⟩
/-- Where only new blocks have come. -/
theorem SesAt.past {w0 : World} {d b : Nat} {x : Ses} {F : Nat → Prop} {w w' : World} (h : SesAt w0 d b x F w) (hb : Below w.heap.size w w') : SesTo w0 d b x F w w' := by
  obtain ⟨P, c, mv, lo, w1, h1, h2, h3, h4, h5, h6, h7, h8, h9, h10⟩ := h.desk
  have hs := h.text.1.blk.2.1
  refine ⟨⟨⟨P, c, mv, lo, w1, blk_below h1 hb, h2, h3.trans (fun k _ hk => hb.block k (Nat.lt_of_lt_of_le hk h3.1)) hb.size, h4, h5.past hb, h6, h7, h8, ?_, h10⟩, h.text.past hb, h.lt, h.old, h.bel.trans (hb.mono h.bel.size), fun k hk => Nat.lt_of_lt_of_le (h.few k hk) hb.size, h.far⟩, fun k hk => hb.block k (h.few k hk), hb.size⟩
  intro v g hv hg
  rw [World.cell?_of_block (w := w) (a := ⟨b, 1, none⟩) (hb.block b hs)] at hv
  exact h9 v g hv hg
/-- More blocks that are none of the session's: new ones. -/
theorem SesAt.more {w0 : World} {d b : Nat} {x : Ses} {F G : Nat → Prop} {w w' : World} (h : SesAt w0 d b x F w) (hb : Below w.heap.size w w') (hG : ∀ k, G k → F k ∨ w.heap.size ≤ k) (hG1 : ∀ k, G k → k < w'.heap.size) : SesAt w0 d b x G w' := by
  obtain ⟨P, c, mv, lo, w1, h1, h2, h3, h4, h5, h6, h7, h8, h9, h10⟩ := h.desk
  have hs := h.text.1.blk.2.1
  have hd := lt_of_heap h1
  have hk := h.past hb
  refine ⟨⟨P, c, mv, lo, w1, blk_below h1 hb, h2, h3.trans (fun k _ hk => hb.block k (Nat.lt_of_lt_of_le hk h3.1)) hb.size, h4, h5.past hb, h6, h7, fun m e => ⟨(h8 m e).1, fun hg => ?_⟩, ?_, fun k hk => ?_⟩, h.text.past hb, h.lt, h.old, h.bel.trans (hb.mono h.bel.size), hG1, fun hg => ?_, fun hg => ?_⟩
  · rcases h5 with ⟨rfl, _⟩ | ⟨m', f, rfl, hM, _⟩
    · cases e
    · injection e with e
      injection e with e
      subst e
      rcases hG _ hg with g | g
      · exact (h8 _ rfl).2 g
      · have := hM.lt; omega
  · intro v g hv hg
    rw [World.cell?_of_block (w := w) (a := ⟨b, 1, none⟩) (hb.block b hs)] at hv
    refine ⟨(h9 v g hv hg).1, fun hg' => ?_⟩
    rcases hG _ hg' with k | k
    · exact (h9 v g hv hg).2 k
    · rcases h.text.1 with ⟨_, u, k2, k3, _⟩ | ⟨_, u, k2, k3, _⟩ <;>
      · rw [Lib.cell_of_heap k2] at hv
        simp at hv
        subst hv
        have := (k3.lt g hg).2
        omega
  · rcases hG _ hk with g | g
    · exact h10 k g
    · exact .inr (Nat.le_trans h3.1 g)
  · rcases hG _ hg with g | g
    · exact h.far.1 g
    · omega
  · rcases hG _ hg with g | g
    · exact h.far.2 g
    · omega
/-- Where blocks F alone were written. -/
theorem SesAt.other {w0 : World} {d b : Nat} {x : Ses} {F : Nat → Prop} {w w' : World} (h : SesAt w0 d b x F w) (hk : ∀ k, ¬ F k → k < w.heap.size → w'.heap[k]? = w.heap[k]?) (hz : w.heap.size ≤ w'.heap.size) (hb : Below w0.heap.size w0 w') : SesAt w0 d b x F w' := by
  obtain ⟨P, c, mv, lo, w1, h1, h2, h3, h4, h5, h6, h7, h8, h9, h10⟩ := h.desk
  have hs := h.text.1.blk.2.1
  have hbb := hk b h.far.2 hs
  refine ⟨⟨P, c, mv, lo, w1, (hk d h.far.1 (lt_of_heap h1)).trans h1, h2, h3.trans (fun k hl hlt => hk k (fun hF => by rcases h10 k hF with g | g <;> omega) (Nat.lt_of_lt_of_le hlt h3.1)) hz, h4, ?_, h6, h7, h8, ?_, h10⟩, ⟨?_, Nat.le_trans h.text.2.1 hz, fun e => (h.text.2.2 e).imp fun _ k => hbb.trans k⟩, h.lt, h.old, hb, fun k hF => Nat.lt_of_lt_of_le (h.few k hF) hz, h.far⟩
  · rcases h5 with g | ⟨m, f, rfl, hM, k3⟩
    · exact .inl g
    · exact .inr ⟨m, f, rfl, hM.of_block (hk m (h8 m rfl).2 hM.lt), k3⟩
  · intro v g hv hg
    rw [World.cell?_of_block (w := w) (a := ⟨b, 1, none⟩) hbb] at hv
    exact h9 v g hv hg
  · have one : ∀ {p : Value}, RsAt b b p (Lib.strCells x.s) (.pointer (some ⟨d, 0, none⟩)) w → RsAt b b p (Lib.strCells x.s) (.pointer (some ⟨d, 0, none⟩)) w' := by
      rintro p ⟨k1, v, k2, k3, k4⟩
      refine ⟨k1, v, hbb.trans k2, ⟨k3.1, ?_⟩, k4⟩
      rcases k3.2 with hn | ⟨g, cap, cur, fz, rfl, hbg, hgg, rest⟩
      · exact .inl hn
      · refine .inr ⟨g, cap, cur, fz, rfl, hbg, (hk g (h9 _ g (by rw [Lib.cell_of_heap k2]; rfl) rfl).2 (lt_of_heap hgg)).trans hgg, rest⟩
    exact h.text.1.imp one one
/-- Where the builder alone was written. -/
theorem SesAt.wrote {w0 : World} {d b : Nat} {x : Ses} {F : Nat → Prop} {w w' : World} (h : SesAt w0 d b x F w) {s : ByteArray} (ht : RsTo b b (.pointer (some ⟨d, 0, none⟩)) s w w') : SesTo w0 d b { x with s := s } F w w' := by
  obtain ⟨P, c, mv, lo, w1, h1, h2, h3, h4, h5, h6, h7, h8, h9, h10⟩ := h.desk
  obtain ⟨g1, g2, g3, g4, hr, hn⟩ := ht
  have hdb := h.lt
  obtain ⟨-, hs, p, v, hbk⟩ := h.text.1.blk
  have hv : w.cell? ⟨b, 1, none⟩ = some v := by rw [Lib.cell_of_heap hbk]; rfl
  have hw := hr v hv
  refine ⟨⟨⟨P, c, mv, lo, w1, ?_, h2, h3.trans (fun k hl hk => hw k (by omega) (fun e => ?_) (Nat.lt_of_lt_of_le hk h3.1)) g4, h4, ?_, h6, h7, h8, ?_, h10⟩, g1, h.lt, h.old, ?_, fun k hF => Nat.lt_of_lt_of_le (h.few k hF) g4, h.far⟩, fun k hF => hw k (fun e => h.far.2 (e ▸ hF)) (fun e => (h9 v k hv e).2 hF) (h.few k hF), g4⟩
  · exact g3 d _ h1 (by omega) (fun c fz e => by injection e with _ e; exact absurd e (by decide))
  · rcases (h9 v k hv e).1 with h' | h' <;> omega
  · rcases h5 with g | ⟨m, f, rfl, ⟨es, clock, k1, k2⟩, k3⟩
    · exact .inl g
    · have hmb : m ≠ b := fun e => by subst e; rw [hbk] at k1; cases k1
      exact .inr ⟨m, f, rfl, ⟨es, clock, g3 m _ k1 hmb (fun c fz e => by cases e), k2⟩, k3⟩
  · intro v' g' hv' hg'
    rcases hn v v' g' hv hv' hg' with k | k
    · exact h9 v g' hv k
    · exact ⟨.inr (Nat.le_trans h3.1 k), fun hF => by have := h.few g' hF; omega⟩
  · exact h.bel.trans (g2.mono (by have := h.old; omega))
theorem SesAt.write {w0 : World} {d b : Nat} {x : Ses} {F : Nat → Prop} {w : World} (h : SesAt w0 d b x F w) (t : ByteArray) (ht : t.data.toList ≠ []) (hlen : x.s.size + t.size ≤ 140737488355328) :
    Calls Tryz.prog 35 #[.pointer (some ⟨b, 0, none⟩), .string t] w fun e w' => e = .returned (.tuple #[.int .i64 t.size, .nilIface]) ∧ SesTo w0 d b { x with s := x.s ++ t } F w w' :=
  (rs_write b b _ x.s t w h.text hlen ht).mono fun _ _ ⟨he, hk⟩ => ⟨he, h.wrote hk⟩
theorem SesAt.string {w0 : World} {d b : Nat} {x : Ses} {F : Nat → Prop} {w : World} (h : SesAt w0 d b x F w) :
    Calls Tryz.prog 37 #[.pointer (some ⟨b, 0, none⟩)] w fun e w' => e = .returned (.string x.s) ∧ SesTo w0 d b x F w w' :=
  (rs_string b b _ x.s w h.text).mono fun _ _ ⟨he, hk⟩ => ⟨he, h.wrote hk⟩
theorem SesAt.reset {w0 : World} {d b : Nat} {x : Ses} {F : Nat → Prop} {w : World} (h : SesAt w0 d b x F w) :
    Calls Tryz.prog 73 #[.pointer (some ⟨b, 0, none⟩)] w fun e w' => e = .returned (.tuple #[]) ∧ SesTo w0 d b { x with s := .empty } F w w' :=
  (rs_reset b b _ x.s w h.text).mono fun _ _ ⟨he, hk⟩ => ⟨he, h.wrote hk⟩
/-- The session's pointer to its desk. -/
theorem SesAt.c2 {w0 : World} {d b : Nat} {x : Ses} {F : Nat → Prop} {w : World} (h : SesAt w0 d b x F w) : w.cell? ⟨b, 2, none⟩ = some (.pointer (some ⟨d, 0, none⟩)) := h.text.c2
/-- A session's begin. -/
theorem SesAt.new {w0 w : World} {d : Nat} {W : Int} (hW : wideF W = true) (hd : w.heap[d]? = some (.cells #[.int .i64 W, .slice none 0 0, .map none] 67 (0, 0))) (hb : Below w0.heap.size w0 w) (hz : w0.heap.size ≤ d) :
    SesAt w0 d w.heap.size ⟨W, [], [], .empty⟩ (fun _ => False) (w.alloc (.cells #[.pointer none, .slice none 0 0, .pointer (some ⟨d, 0, none⟩)] 97)) := by
  have hdl := lt_of_heap hd
  have hbb : Below w.heap.size w (w.alloc (.cells #[.pointer none, .slice none 0 0, .pointer (some ⟨d, 0, none⟩)] 97)) := (Below.refl _ _).alloc (Nat.le_refl _) _
  refine ⟨⟨none, 0, .map none, w.heap.size + 1, w, blk_below hd hbb, PrgF.nil_ _ _, ⟨hbb.size, fun k h1 h2 => by omega⟩, Nat.lt_succ_self _, .inl ⟨rfl, rfl⟩, by simp, OnDesk.nil_ hW, (fun m h => by cases h), ?_, fun _ h => h.elim⟩, RsW.new _ _, hdl, hz, hb.trans (hbb.mono hb.size), fun _ h => h.elim, id, id⟩
  intro v g hv hg
  rw [Lib.cell_of_heap (heap_new rfl)] at hv
  simp at hv
  subst hv
  cases hg
end Go.Proofs.YtddfdmopaeghnadGreatDoor
